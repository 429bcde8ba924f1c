/- Layer 20: the document's closes, Can, in, among. -/
import Derived.Test.YtcanlgcifnjfaaaDoorPt18
import Derived.Deep.CutBlock
set_option maxRecDepth 20000
namespace Go.Proofs.YtcanlgcifnjfaaaDoor
open Go.RowKit Go.Hd

theorem byte_num {s : List UInt8} {j : Nat} (hsz : j < (str s).size) (hlt : j < s.length) (x : UInt8) (n : Int) (hn : (x.toNat : Int) = n) : ((((str s)[j]'hsz).toNat : Int) == n) = (s[j]'hlt == x) := hn ▸ byte_eq hsz hlt x
set_option maxHeartbeats 1000000 in
theorem closes_any (p : List UInt8) (i : Nat) (w : World) (hp : p.length ≤ 1000000) (hi : i ≤ p.length) :
    Calls Tryd.prog 65 #[.string (str p), .int .i64 (i : Int)] w fun e w' => e = .returned (.int .i64 (clF p i)) ∧ w = w' := by
  have hz : (str p).size = p.length := str_size p
  have HP := Lib.hid hp
  have HI := Lib.hid hi
  have i0 : (0 : Int) ≤ (i : Int) := by omega
  have w1 : IntKind.i64.wrap ((i : Int) + 1) = (i : Int) + 1 := IntWalk.i64_in _ (by omega)
  have w2 : IntKind.i64.wrap ((i : Int) + 1 + 1) = (i : Int) + 1 + 1 := IntWalk.i64_in _ (by omega)
  have HC : Hid ((∀ j, frA p i ≤ j → p[j]? = some 93 → (∀ m, frA p i ≤ m → m < j → p[m]? ≠ some 93) → clF p i = (j : Int)) ∧ ((∀ m, frA p i ≤ m → m < p.length → p[m]? ≠ some 93) → clF p i = -1)) := ⟨fun j => cl_found, cl_none⟩
  have hcs : (∃ h : i < p.length, (p[i]'h == 33) = true ∧ frA p i = i + 2) ∨ (∃ h : i < p.length, (p[i]'h == 33) = false ∧ frA p i = i + 1) ∨ (p.length ≤ i ∧ frA p i = i + 1) := by
    unfold frA
    rcases Nat.lt_or_ge i p.length with h | h
    · rw [frF_at h]
      cases hc : (p[i]'h == 33)
      · exact .inr (.inl ⟨h, hc, rfl⟩)
      · exact .inl ⟨h, hc, rfl⟩
    · rw [frF_out h]; exact .inr (.inr ⟨h, rfl⟩)
  generalize clF p i = R at *
  generalize frA p i = F at *
  clear hp hi
  rcases hcs with ⟨hlt, hc, hF⟩ | ⟨hlt, hc, hF⟩ | ⟨hge, hF⟩
  · have k1 : (i : Int) < (p.length : Int) := by omega
    have hsz0 : i < (str p).size := by rw [hz]; exact hlt
    have t0 := byte_num hsz0 hlt 33 33 rfl
    rw [hc] at t0
    clear hc
    go_enter Tryd.func65, Tryd.ntmps65
    go_wp2
    go_loopw [6] (fun v wr => ∃ j : Nat, F ≤ j ∧ j ≤ p.length + 2 ∧ v = .int .i64 j ∧ Hid (∀ m, F ≤ m → m < j → p[m]? ≠ some 93) ∧ Hid (wr = w)) (fun v _ => p.length + 2 - (intOf v).toNat)
    case atStart => exact ⟨F, Nat.le_refl _, by have := HI.out; omega, (by first | rfl | go_num | (congr 1; omega)), Lib.hid (fun m h1 h2 => absurd h1 (by omega)), Lib.hid rfl⟩
    case round =>
      obtain ⟨j, hFj, hj, rfl, hno, hwr⟩ := hrel
      have hwr := hwr.out
      subst hwr
      have j0 : (0 : Int) ≤ (j : Int) := by omega
      have jb : IntKind.i64.wrap ((j : Int) + 1) = (j : Int) + 1 := IntWalk.i64_in _ (by have := HP.out; omega)
      by_cases hlt2 : j < p.length
      · have j1 : (j : Int) < (p.length : Int) := by omega
        have hsz : j < (str p).size := by rw [hz]; exact hlt2
        by_cases hc2 : (p[j]'hlt2 == 93) = true
        · have t := byte_num hsz hlt2 93 93 rfl
          have hR : Hid (R = (j : Int)) := HC.out.1 j hFj (by rw [List.getElem?_eq_getElem hlt2, beq_iff_eq.1 hc2]) hno.out
          rw [hc2] at t
          clear hno HC hF hFj hc2
          go_wp2
          go_ret
          exact ⟨by rw [hR.out] <;> rfl, rfl⟩
        · have hc3 : (p[j]'hlt2 == 93) = false := by simpa using hc2
          have t := byte_num hsz hlt2 93 93 rfl
          rw [hc3] at t
          have hno2 : Hid (∀ m, F ≤ m → m < j + 1 → p[m]? ≠ some 93) := fun m h1 h2 => by
            by_cases e : m = j
            · subst e
              rw [List.getElem?_eq_getElem hlt2]
              intro e2
              injection e2 with e2
              rw [e2] at hc3
              exact absurd hc3 (by decide)
            · exact hno.out m h1 (by omega)
          clear hno HC hF hc2 hc3
          go_wp2
          first
            | exact ⟨⟨j + 1, by omega, by omega, (by first | rfl | go_num | (congr 1; omega)), hno2, (by first | exact Lib.hid rfl | exact Lib.hid trivial)⟩, by simp [intOf] <;> omega⟩
            | (refine ⟨?_, by simp [intOf] <;> omega⟩; (repeat apply Exists.intro); exact ⟨⟨j + 1, by omega, by omega, (by first | rfl | go_num | (congr 1; omega)), hno2, (by first | exact Lib.hid rfl | exact Lib.hid trivial)⟩, rfl⟩)
      · have j1 : ¬ (j : Int) < (p.length : Int) := by omega
        have hR : Hid (R = -1) := HC.out.2 (fun m h1 h2 => hno.out m h1 (by omega))
        clear hno HC hF hFj
        go_wp2
        go_ret
        exact ⟨by rw [hR.out] <;> rfl, rfl⟩
  · have k1 : (i : Int) < (p.length : Int) := by omega
    have hsz0 : i < (str p).size := by rw [hz]; exact hlt
    have t0 := byte_num hsz0 hlt 33 33 rfl
    rw [hc] at t0
    clear hc
    go_enter Tryd.func65, Tryd.ntmps65
    go_wp2
    go_loopw [6] (fun v wr => ∃ j : Nat, F ≤ j ∧ j ≤ p.length + 2 ∧ v = .int .i64 j ∧ Hid (∀ m, F ≤ m → m < j → p[m]? ≠ some 93) ∧ Hid (wr = w)) (fun v _ => p.length + 2 - (intOf v).toNat)
    case atStart => exact ⟨F, Nat.le_refl _, by have := HI.out; omega, (by first | rfl | go_num | (congr 1; omega)), Lib.hid (fun m h1 h2 => absurd h1 (by omega)), Lib.hid rfl⟩
    case round =>
      obtain ⟨j, hFj, hj, rfl, hno, hwr⟩ := hrel
      have hwr := hwr.out
      subst hwr
      have j0 : (0 : Int) ≤ (j : Int) := by omega
      have jb : IntKind.i64.wrap ((j : Int) + 1) = (j : Int) + 1 := IntWalk.i64_in _ (by have := HP.out; omega)
      by_cases hlt2 : j < p.length
      · have j1 : (j : Int) < (p.length : Int) := by omega
        have hsz : j < (str p).size := by rw [hz]; exact hlt2
        by_cases hc2 : (p[j]'hlt2 == 93) = true
        · have t := byte_num hsz hlt2 93 93 rfl
          have hR : Hid (R = (j : Int)) := HC.out.1 j hFj (by rw [List.getElem?_eq_getElem hlt2, beq_iff_eq.1 hc2]) hno.out
          rw [hc2] at t
          clear hno HC hF hFj hc2
          go_wp2
          go_ret
          exact ⟨by rw [hR.out] <;> rfl, rfl⟩
        · have hc3 : (p[j]'hlt2 == 93) = false := by simpa using hc2
          have t := byte_num hsz hlt2 93 93 rfl
          rw [hc3] at t
          have hno2 : Hid (∀ m, F ≤ m → m < j + 1 → p[m]? ≠ some 93) := fun m h1 h2 => by
            by_cases e : m = j
            · subst e
              rw [List.getElem?_eq_getElem hlt2]
              intro e2
              injection e2 with e2
              rw [e2] at hc3
              exact absurd hc3 (by decide)
            · exact hno.out m h1 (by omega)
          clear hno HC hF hc2 hc3
          go_wp2
          first
            | exact ⟨⟨j + 1, by omega, by omega, (by first | rfl | go_num | (congr 1; omega)), hno2, (by first | exact Lib.hid rfl | exact Lib.hid trivial)⟩, by simp [intOf] <;> omega⟩
            | (refine ⟨?_, by simp [intOf] <;> omega⟩; (repeat apply Exists.intro); exact ⟨⟨j + 1, by omega, by omega, (by first | rfl | go_num | (congr 1; omega)), hno2, (by first | exact Lib.hid rfl | exact Lib.hid trivial)⟩, rfl⟩)
      · have j1 : ¬ (j : Int) < (p.length : Int) := by omega
        have hR : Hid (R = -1) := HC.out.2 (fun m h1 h2 => hno.out m h1 (by omega))
        clear hno HC hF hFj
        go_wp2
        go_ret
        exact ⟨by rw [hR.out] <;> rfl, rfl⟩
  · have k1 : ¬ (i : Int) < (p.length : Int) := by omega
    go_enter Tryd.func65, Tryd.ntmps65
    go_wp2
    go_loopw [6] (fun v wr => ∃ j : Nat, F ≤ j ∧ j ≤ p.length + 2 ∧ v = .int .i64 j ∧ Hid (∀ m, F ≤ m → m < j → p[m]? ≠ some 93) ∧ Hid (wr = w)) (fun v _ => p.length + 2 - (intOf v).toNat)
    case atStart => exact ⟨F, Nat.le_refl _, by have := HI.out; omega, (by first | rfl | go_num | (congr 1; omega)), Lib.hid (fun m h1 h2 => absurd h1 (by omega)), Lib.hid rfl⟩
    case round =>
      obtain ⟨j, hFj, hj, rfl, hno, hwr⟩ := hrel
      have hwr := hwr.out
      subst hwr
      have j0 : (0 : Int) ≤ (j : Int) := by omega
      have jb : IntKind.i64.wrap ((j : Int) + 1) = (j : Int) + 1 := IntWalk.i64_in _ (by have := HP.out; omega)
      by_cases hlt2 : j < p.length
      · have j1 : (j : Int) < (p.length : Int) := by omega
        have hsz : j < (str p).size := by rw [hz]; exact hlt2
        by_cases hc2 : (p[j]'hlt2 == 93) = true
        · have t := byte_num hsz hlt2 93 93 rfl
          have hR : Hid (R = (j : Int)) := HC.out.1 j hFj (by rw [List.getElem?_eq_getElem hlt2, beq_iff_eq.1 hc2]) hno.out
          rw [hc2] at t
          clear hno HC hF hFj hc2
          go_wp2
          go_ret
          exact ⟨by rw [hR.out] <;> rfl, rfl⟩
        · have hc3 : (p[j]'hlt2 == 93) = false := by simpa using hc2
          have t := byte_num hsz hlt2 93 93 rfl
          rw [hc3] at t
          have hno2 : Hid (∀ m, F ≤ m → m < j + 1 → p[m]? ≠ some 93) := fun m h1 h2 => by
            by_cases e : m = j
            · subst e
              rw [List.getElem?_eq_getElem hlt2]
              intro e2
              injection e2 with e2
              rw [e2] at hc3
              exact absurd hc3 (by decide)
            · exact hno.out m h1 (by omega)
          clear hno HC hF hc2 hc3
          go_wp2
          first
            | exact ⟨⟨j + 1, by omega, by omega, (by first | rfl | go_num | (congr 1; omega)), hno2, (by first | exact Lib.hid rfl | exact Lib.hid trivial)⟩, by simp [intOf] <;> omega⟩
            | (refine ⟨?_, by simp [intOf] <;> omega⟩; (repeat apply Exists.intro); exact ⟨⟨j + 1, by omega, by omega, (by first | rfl | go_num | (congr 1; omega)), hno2, (by first | exact Lib.hid rfl | exact Lib.hid trivial)⟩, rfl⟩)
      · have j1 : ¬ (j : Int) < (p.length : Int) := by omega
        have hR : Hid (R = -1) := HC.out.2 (fun m h1 h2 => hno.out m h1 (by omega))
        clear hno HC hF hFj
        go_wp2
        go_ret
        exact ⟨by rw [hR.out] <;> rfl, rfl⟩
theorem clF_some {p : List UInt8} {i : Nat} {f : Nat → Bool} {k : Nat} (h : setF (p.drop i) = some (f, k)) : clF p i = ((i + k - 1 : Nat) : Int) ∧ 2 ≤ k ∧ i + k ≤ p.length := by
  obtain ⟨g1, g2, _⟩ := setF_end h
  rw [List.length_drop] at g2
  unfold clF
  rw [h]
  simp only
  omega
theorem clF_none {p : List UInt8} {i : Nat} (h : setF (p.drop i) = none) : clF p i = -1 := by
  unfold clF; rw [h]
set_option maxHeartbeats 1000000 in
theorem rcan_path (s : List UInt8) (w : World) (hs : s.length ≤ 1000000) :
    Calls Tryd.prog 52 #[.string (str s)] w fun e w' => e = .returned (.bool (canN (s.length + 1) s)) ∧ w = w' := by
  have hz : (str s).size = s.length := str_size s
  have HS := Lib.hid hs
  have h0 : Hid (∃ n, s.length - 0 < n ∧ canN n (s.drop 0) = canN (s.length + 1) s) := ⟨s.length + 1, by omega, rfl⟩
  generalize canN (s.length + 1) s = R at *
  clear hs
  go_enter Tryd.func52, Tryd.ntmps52
  go_wp2
  go_loopw [3] (fun v wr => ∃ j : Nat, j ≤ s.length ∧ v = .int .i64 j ∧ Hid (∃ n, s.length - j < n ∧ canN n (s.drop j) = R) ∧ Hid (wr = w)) (fun v _ => s.length - (intOf v).toNat)
  case atStart => exact ⟨0, Nat.zero_le _, rfl, h0, Lib.hid rfl⟩
  case round =>
    obtain ⟨j, hj, rfl, hinv, hwr⟩ := hrel
    have hwr := hwr.out
    subst hwr
    have j0 : (0 : Int) ≤ (j : Int) := by omega
    have jb : IntKind.i64.wrap ((j : Int) + 1) = (j : Int) + 1 := IntWalk.i64_in _ (by have := HS.out; omega)
    clear h0
    by_cases hlt : j < s.length
    · have j1 : (j : Int) < (s.length : Int) := by omega
      have hsz : j < (str s).size := by rw [hz]; exact hlt
      have t := byte_num hsz hlt 91 91 rfl
      obtain ⟨n, hn, hR⟩ := hinv.out
      rw [List.drop_eq_getElem_cons hlt] at hR
      obtain ⟨n, rfl⟩ : ∃ m, n = m + 1 := ⟨n - 1, by omega⟩
      have hR2 : (if s[j]'hlt = 91 then (match setF (s.drop (j + 1)) with
        | none => false
        | some fk => canN n ((s.drop (j + 1)).drop fk.2)) else canN n (s.drop (j + 1))) = R := hR
      by_cases hc : s[j]'hlt = 91
      · rw [if_pos hc] at hR2
        rw [show (s[j]'hlt == 91) = true by rw [hc]; rfl] at t
        have hcl := closes_any s (j + 1) wr HS.out (by omega)
        rw [show (((j + 1 : Nat) : Int)) = (j : Int) + 1 by omega] at hcl
        cases hS : setF (s.drop (j + 1)) with
        | none =>
          rw [hS] at hR2
          have hRf : Hid (R = false) := hR2.symm
          rw [clF_none hS] at hcl
          clear hR hR2 hinv hc hS
          go_wp2_with fail
          refine hcl.mono ?_
          rintro e w1 ⟨rfl, rfl⟩
          go_wp2
          go_ret
          exact ⟨by rw [hRf.out] <;> rfl, rfl⟩
        | some fk =>
          obtain ⟨f, k⟩ := fk
          rw [hS] at hR2
          obtain ⟨e1, e2, e3⟩ := clF_some hS
          rw [e1] at hcl
          have hN : Hid (∃ n, s.length - (j + 1 + k - 1 + 1) < n ∧ canN n (s.drop (j + 1 + k - 1 + 1)) = R) := ⟨n, by omega, by rw [← hR2]; show canN n _ = canN n ((s.drop (j + 1)).drop k); rw [List.drop_drop, show j + 1 + k - 1 + 1 = j + 1 + k by omega]⟩
          have hE : Hid (j < j + 1 + k - 1 ∧ j + 1 + k - 1 + 1 ≤ s.length) := by show _ ∧ _; omega
          clear hR hR2 hinv hc hS e1 e2 e3
          generalize j + 1 + k - 1 = E at *
          have E0 : ¬ (E : Int) < 0 := by omega
          have Eb : IntKind.i64.wrap ((E : Int) + 1) = (E : Int) + 1 := IntWalk.i64_in _ (by have := HS.out; have := hE.out; omega)
          have hE1 := hE.out
          go_wp2_with fail
          refine hcl.mono ?_
          rintro e w1 ⟨rfl, rfl⟩
          go_wp2
          first
            | exact ⟨⟨E + 1, by omega, (by first | rfl | go_num | (congr 1; omega)), hN, (by first | exact Lib.hid rfl | exact Lib.hid trivial)⟩, by simp [intOf] <;> omega⟩
            | (refine ⟨?_, by simp [intOf] <;> omega⟩; (repeat apply Exists.intro); exact ⟨⟨E + 1, by omega, (by first | rfl | go_num | (congr 1; omega)), hN, (by first | exact Lib.hid rfl | exact Lib.hid trivial)⟩, rfl⟩)
      · rw [if_neg hc] at hR2
        rw [show (s[j]'hlt == 91) = false by simpa using hc] at t
        have hN : Hid (∃ n, s.length - (j + 1) < n ∧ canN n (s.drop (j + 1)) = R) := ⟨n, by omega, hR2⟩
        clear hR hR2 hinv hc
        go_wp2
        first
          | exact ⟨⟨j + 1, by omega, (by first | rfl | go_num | (congr 1; omega)), hN, (by first | exact Lib.hid rfl | exact Lib.hid trivial)⟩, by simp [intOf] <;> omega⟩
          | (refine ⟨?_, by simp [intOf] <;> omega⟩; (repeat apply Exists.intro); exact ⟨⟨j + 1, by omega, (by first | rfl | go_num | (congr 1; omega)), hN, (by first | exact Lib.hid rfl | exact Lib.hid trivial)⟩, rfl⟩)
    · have j1 : ¬ (j : Int) < (s.length : Int) := by omega
      have hR : Hid (R = true) := by
        show _ = _
        obtain ⟨n, hn, hR⟩ := hinv.out
        obtain ⟨n, rfl⟩ : ∃ m, n = m + 1 := ⟨n - 1, by omega⟩
        rw [← hR, List.drop_eq_nil_of_le (by omega)]; rfl
      clear hinv
      go_wp2
      go_ret
      exact ⟨by rw [hR.out] <;> rfl, rfl⟩
theorem among_three {p : List UInt8} {j e : Nat} (x : Nat) (he : e ≤ p.length) (h : j + 2 < e) (h45 : p[j + 1]'(by omega) = 45) : amongB ((p.drop j).take (e - j)) x = ((decide ((p[j]'(by omega)).toNat ≤ x) && decide (x ≤ (p[j + 2]'(by omega)).toNat)) || amongB ((p.drop (j + 3)).take (e - (j + 3))) x) := by
  rw [List.drop_eq_getElem_cons (show j < p.length by omega), List.drop_eq_getElem_cons (show j + 1 < p.length by omega), List.drop_eq_getElem_cons (show j + 1 + 1 < p.length by omega), show e - j = (e - (j + 3)) + 1 + 1 + 1 by omega,
    List.take_succ_cons, List.take_succ_cons, List.take_succ_cons, h45, amongB_range]
theorem among_one {p : List UInt8} {j e : Nat} (x : Nat) (he : e ≤ p.length) (hj : j < e) (h : ¬ ∃ h : j + 2 < e, p[j + 1]'(by omega) = 45) : amongB ((p.drop j).take (e - j)) x = ((p[j]'(by omega)).toNat == x || amongB ((p.drop (j + 1)).take (e - (j + 1))) x) := by
  rw [List.drop_eq_getElem_cons (show j < p.length by omega), show e - j = (e - (j + 1)) + 1 by omega, List.take_succ_cons, amongB_one]
  intro b r' e2
  have h0 := congrArg List.length e2
  rw [List.length_take, List.length_drop, List.length_cons, List.length_cons] at h0
  have h2 : j + 2 < e := by omega
  refine h ⟨h2, ?_⟩
  have h3 : ((p.drop (j + 1)).take (e - (j + 1)))[0]? = some 45 := by rw [e2]; rfl
  rw [List.getElem?_take_of_lt (by omega), List.getElem?_drop, List.getElem?_eq_getElem (by omega)] at h3
  injection h3
theorem nat_beq (a b : Nat) : ((a : Int) == (b : Int)) = (a == b) := by
  rw [Bool.eq_iff_iff, beq_iff_eq, beq_iff_eq]; omega
set_option maxHeartbeats 2000000 in
theorem among_any (p : List UInt8) (i e : Nat) (c : UInt8) (w : World) (hp : p.length ≤ 1000000) (hi : i ≤ e) (he : e ≤ p.length) :
    Calls Tryd.prog 81 #[.string (str p), .int .i64 (i : Int), .int .i64 (e : Int), .int .u8 (c.toNat : Int)] w fun r w' => r = .returned (.bool (amongB ((p.drop i).take (e - i)) c.toNat)) ∧ w = w' := by
  have hz : (str p).size = p.length := str_size p
  have HP := Lib.hid hp
  have HE := Lib.hid he
  obtain ⟨x, hx⟩ : ∃ x : Nat, x = c.toNat := ⟨_, rfl⟩
  rw [← hx]
  have h0 : Hid ((false || amongB ((p.drop i).take (e - i)) x) = amongB ((p.drop i).take (e - i)) x) := Bool.false_or _
  generalize hRR : amongB ((p.drop i).take (e - i)) x = R at *
  have HR := Lib.hid hRR
  clear hp hx hRR
  go_enter Tryd.func81, Tryd.ntmps81
  go_wp2
  go_loopw [1, 9] (fun v u wr => ∃ j : Nat, j ≤ e ∧ v = .int .i64 j ∧ Hid (∃ b : Bool, u = .bool b ∧ (b || amongB ((p.drop j).take (e - j)) x) = R) ∧ Hid (wr = w)) (fun v _ _ => e - (intOf v).toNat)
  case atStart => exact ⟨i, hi, rfl, Lib.hid ⟨false, rfl, by rw [HR.out]; rfl⟩, Lib.hid rfl⟩
  case round =>
    obtain ⟨j, hj, rfl, hub, hwr⟩ := hrel
    obtain ⟨b, hu, hinv0⟩ := hub.out
    subst hu
    have hinv := Lib.hid hinv0
    clear hub hinv0
    have hwr := hwr.out
    subst hwr
    have j0 : (0 : Int) ≤ (j : Int) := by omega
    have k1 : IntKind.i64.wrap ((j : Int) + 1) = (j : Int) + 1 := IntWalk.i64_in _ (by have := HP.out; omega)
    have k2 : IntKind.i64.wrap ((j : Int) + 2) = (j : Int) + 2 := IntWalk.i64_in _ (by have := HP.out; omega)
    have k3 : IntKind.i64.wrap ((j : Int) + 3) = (j : Int) + 3 := IntWalk.i64_in _ (by have := HP.out; omega)
    clear h0 HR
    by_cases hlt : j < e
    · have j1 : (j : Int) < (e : Int) := by omega
      have hsz : j < (str p).size := by rw [hz]; omega
      have hjl : (j : Int) < (p.length : Int) := by omega
      have hb0 : ((str p)[j]'hsz).toNat = (p[j]'(by omega)).toNat := congrArg (fun c : UInt8 => c.toNat) (str_at p j hsz (by omega))
      have ONE : Hid ((¬ ∃ h : j + 2 < e, p[j + 1]'(by omega) = 45) → (b || ((((str p)[j]'hsz).toNat : Int) == (x : Int)) || amongB ((p.drop (j + 1)).take (e - (j + 1))) x) = R) := fun h => by
        rw [← hinv.out, among_one x he hlt h, Bool.or_assoc, nat_beq, hb0]
      by_cases h2 : j + 2 < e
      · have i2 : (j : Int) + 2 < (e : Int) := by omega
        have h3 : j + 3 ≤ e := by omega
        have hsz1 : j + 1 < (str p).size := by rw [hz]; omega
        have hsz2 : j + 2 < (str p).size := by rw [hz]; omega
        have i3 : (j : Int) + 1 < (p.length : Int) := by omega
        have i4 : (j : Int) + 2 < (p.length : Int) := by omega
        have t1 := byte_num hsz1 (by omega) 45 45 rfl
        by_cases h45 : p[j + 1]'(by omega) = 45
        · rw [show (p[j + 1]'(by omega) == 45) = true by rw [h45]; rfl] at t1
          have hb2 : ((str p)[j + 2]'hsz2).toNat = (p[j + 2]'(by omega)).toNat := congrArg (fun c : UInt8 => c.toNat) (str_at p (j + 2) hsz2 (by omega))
          have TH : Hid ((b || (decide ((((str p)[j]'hsz).toNat : Int) ≤ (x : Int)) && decide ((x : Int) ≤ (((str p)[j + 2]'hsz2).toNat : Int))) || amongB ((p.drop (j + 3)).take (e - (j + 3))) x) = R) := by
            show _ = _
            rw [← hinv.out, among_three x he h2 h45, Bool.or_assoc, hb0, hb2]
            have d1 : ∀ a : Nat, decide ((a : Int) ≤ (x : Int)) = decide (a ≤ x) := fun a => by rw [decide_eq_decide]; omega
            have d2 : ∀ a : Nat, decide ((x : Int) ≤ (a : Int)) = decide (x ≤ a) := fun a => by rw [decide_eq_decide]; omega
            rw [d1, d2]
          have dI := fun a : Nat => (decide_eq_decide.2 (by omega) : decide ((a : Int) ≤ (x : Int)) = decide (a ≤ x))
          have dJ := fun a : Nat => (decide_eq_decide.2 (by omega) : decide ((x : Int) ≤ (a : Int)) = decide (x ≤ a))
          clear ONE hinv h45 hb0 hb2
          cases b
          · cases hA : decide (((str p)[j]'hsz).toNat ≤ x)
            · have TH2 : Hid ((false || amongB ((p.drop (j + 3)).take (e - (j + 3))) x) = R) := by show _ = _; rw [← TH.out, dI, hA]; rfl
              have hA2 := of_decide_eq_false hA
              clear TH dI dJ
              go_wp2
              first
                | exact ⟨⟨j + 3, h3, (by first | rfl | go_num | (congr 1; omega)), Lib.hid ⟨false, rfl, TH2.out⟩, (by first | exact Lib.hid rfl | exact Lib.hid trivial)⟩, by simp [intOf] <;> omega⟩
                | (refine ⟨?_, by simp [intOf] <;> omega⟩; (repeat apply Exists.intro); exact ⟨⟨j + 3, h3, (by first | rfl | go_num | (congr 1; omega)), Lib.hid ⟨false, rfl, TH2.out⟩, (by first | exact Lib.hid rfl | exact Lib.hid trivial)⟩, rfl⟩)
            · have hA2 := of_decide_eq_true hA
              cases hB : decide (x ≤ ((str p)[j + 2]'hsz2).toNat)
              · have TH2 : Hid ((false || amongB ((p.drop (j + 3)).take (e - (j + 3))) x) = R) := by show _ = _; rw [← TH.out, dI, hA, dJ, hB]; rfl
                have hB2 := of_decide_eq_false hB
                clear TH dI dJ
                go_wp2
                first
                  | exact ⟨⟨j + 3, h3, (by first | rfl | go_num | (congr 1; omega)), Lib.hid ⟨false, rfl, TH2.out⟩, (by first | exact Lib.hid rfl | exact Lib.hid trivial)⟩, by simp [intOf] <;> omega⟩
                  | (refine ⟨?_, by simp [intOf] <;> omega⟩; (repeat apply Exists.intro); exact ⟨⟨j + 3, h3, (by first | rfl | go_num | (congr 1; omega)), Lib.hid ⟨false, rfl, TH2.out⟩, (by first | exact Lib.hid rfl | exact Lib.hid trivial)⟩, rfl⟩)
              · have TH2 : Hid ((true || amongB ((p.drop (j + 3)).take (e - (j + 3))) x) = R) := by show _ = _; rw [← TH.out, dI, hA, dJ, hB]; rfl
                have hB2 := of_decide_eq_true hB
                clear TH dI dJ
                go_wp2
                first
                  | exact ⟨⟨j + 3, h3, (by first | rfl | go_num | (congr 1; omega)), Lib.hid ⟨true, rfl, TH2.out⟩, (by first | exact Lib.hid rfl | exact Lib.hid trivial)⟩, by simp [intOf] <;> omega⟩
                  | (refine ⟨?_, by simp [intOf] <;> omega⟩; (repeat apply Exists.intro); exact ⟨⟨j + 3, h3, (by first | rfl | go_num | (congr 1; omega)), Lib.hid ⟨true, rfl, TH2.out⟩, (by first | exact Lib.hid rfl | exact Lib.hid trivial)⟩, rfl⟩)
          · have TH2 : Hid ((true || amongB ((p.drop (j + 3)).take (e - (j + 3))) x) = R) := by show _ = _; rw [← TH.out]; rfl
            clear TH dI dJ
            go_wp2
            first
              | exact ⟨⟨j + 3, h3, (by first | rfl | go_num | (congr 1; omega)), Lib.hid ⟨true, rfl, TH2.out⟩, (by first | exact Lib.hid rfl | exact Lib.hid trivial)⟩, by simp [intOf] <;> omega⟩
              | (refine ⟨?_, by simp [intOf] <;> omega⟩; (repeat apply Exists.intro); exact ⟨⟨j + 3, h3, (by first | rfl | go_num | (congr 1; omega)), Lib.hid ⟨true, rfl, TH2.out⟩, (by first | exact Lib.hid rfl | exact Lib.hid trivial)⟩, rfl⟩)
        · rw [show (p[j + 1]'(by omega) == 45) = false by simpa using h45] at t1
          have TH := Lib.hid (ONE.out (fun ⟨_, h⟩ => h45 h))
          clear ONE hinv h45 hb0
          cases b
          · have TH2 : Hid ((((((str p)[j]'hsz).toNat : Int) == (x : Int)) || amongB ((p.drop (j + 1)).take (e - (j + 1))) x) = R) := by show _ = _; rw [← TH.out]; rfl
            clear TH
            go_wp2
            first
              | exact ⟨⟨j + 1, by omega, (by first | rfl | go_num | (congr 1; omega)), Lib.hid ⟨_, rfl, TH2.out⟩, (by first | exact Lib.hid rfl | exact Lib.hid trivial)⟩, by simp [intOf] <;> omega⟩
              | (refine ⟨?_, by simp [intOf] <;> omega⟩; (repeat apply Exists.intro); exact ⟨⟨j + 1, by omega, (by first | rfl | go_num | (congr 1; omega)), Lib.hid ⟨_, rfl, TH2.out⟩, (by first | exact Lib.hid rfl | exact Lib.hid trivial)⟩, rfl⟩)
          · have TH2 : Hid ((true || amongB ((p.drop (j + 1)).take (e - (j + 1))) x) = R) := by show _ = _; rw [← TH.out]; rfl
            clear TH
            go_wp2
            first
              | exact ⟨⟨j + 1, by omega, (by first | rfl | go_num | (congr 1; omega)), Lib.hid ⟨true, rfl, TH2.out⟩, (by first | exact Lib.hid rfl | exact Lib.hid trivial)⟩, by simp [intOf] <;> omega⟩
              | (refine ⟨?_, by simp [intOf] <;> omega⟩; (repeat apply Exists.intro); exact ⟨⟨j + 1, by omega, (by first | rfl | go_num | (congr 1; omega)), Lib.hid ⟨true, rfl, TH2.out⟩, (by first | exact Lib.hid rfl | exact Lib.hid trivial)⟩, rfl⟩)
      · have i2 : ¬ (j : Int) + 2 < (e : Int) := by omega
        have TH := Lib.hid (ONE.out (fun ⟨h, _⟩ => h2 h))
        clear ONE hinv hb0
        cases b
        · have TH2 : Hid ((((((str p)[j]'hsz).toNat : Int) == (x : Int)) || amongB ((p.drop (j + 1)).take (e - (j + 1))) x) = R) := by show _ = _; rw [← TH.out]; rfl
          clear TH
          go_wp2
          first
            | exact ⟨⟨j + 1, by omega, (by first | rfl | go_num | (congr 1; omega)), Lib.hid ⟨_, rfl, TH2.out⟩, (by first | exact Lib.hid rfl | exact Lib.hid trivial)⟩, by simp [intOf] <;> omega⟩
            | (refine ⟨?_, by simp [intOf] <;> omega⟩; (repeat apply Exists.intro); exact ⟨⟨j + 1, by omega, (by first | rfl | go_num | (congr 1; omega)), Lib.hid ⟨_, rfl, TH2.out⟩, (by first | exact Lib.hid rfl | exact Lib.hid trivial)⟩, rfl⟩)
        · have TH2 : Hid ((true || amongB ((p.drop (j + 1)).take (e - (j + 1))) x) = R) := by show _ = _; rw [← TH.out]; rfl
          clear TH
          go_wp2
          first
            | exact ⟨⟨j + 1, by omega, (by first | rfl | go_num | (congr 1; omega)), Lib.hid ⟨true, rfl, TH2.out⟩, (by first | exact Lib.hid rfl | exact Lib.hid trivial)⟩, by simp [intOf] <;> omega⟩
            | (refine ⟨?_, by simp [intOf] <;> omega⟩; (repeat apply Exists.intro); exact ⟨⟨j + 1, by omega, (by first | rfl | go_num | (congr 1; omega)), Lib.hid ⟨true, rfl, TH2.out⟩, (by first | exact Lib.hid rfl | exact Lib.hid trivial)⟩, rfl⟩)
    · have j1 : ¬ (j : Int) < (e : Int) := by omega
      have hR : Hid (b = R) := by
        show _ = _
        rw [← hinv.out, show e - j = 0 by omega, List.take_zero]
        show b = (b || false)
        rw [Bool.or_false]
      clear hinv
      go_wp2
      go_ret
      exact ⟨by rw [← hR.out] <;> rfl, rfl⟩
theorem setF_body {r : List UInt8} {f : Nat → Bool} {k : Nat} (h : setF r = some (f, k)) : frF r + 2 ≤ k ∧ ∀ x, f x = (amongB ((r.drop (frF r)).take (k - 1 - frF r)) x != (frF r == 1)) := by
  unfold setF at h
  split at h
  · cases h
  · split at h
    · cases h
    · injection h with h
      injection h with h1 h2
      subst h1
      have e : k - 1 - frF r = (Lib.indexByte (r.drop (frF r + 1)) 93).toNat + 1 := by omega
      rw [e]
      exact ⟨by omega, fun x => rfl⟩
theorem in_any {p : List UInt8} {i : Nat} {f : Nat → Bool} {k : Nat} (c : UInt8) (w : World) (hp : p.length ≤ 1000000) (h : setF (p.drop i) = some (f, k)) :
    Calls Tryd.prog 77 #[.string (str p), .int .i64 (i : Int), .int .i64 ((i + k - 1 : Nat) : Int), .int .u8 (c.toNat : Int)] w fun r w' => r = .returned (.bool (f c.toNat)) ∧ w = w' := by
  have hz : (str p).size = p.length := str_size p
  obtain ⟨_, h2, h3⟩ := clF_some h
  obtain ⟨b1, b2⟩ := setF_body h
  have hlt : i < p.length := by omega
  have hsz : i < (str p).size := by rw [hz]; exact hlt
  have t := byte_num hsz hlt 33 33 rfl
  rw [frF_at hlt] at b1 b2
  have i0 : (0 : Int) ≤ (i : Int) := by omega
  have j1 : (i : Int) < (p.length : Int) := by omega
  have hR : Hid (f c.toNat = (amongB (((p.drop i).drop (if (p[i]'hlt == 33) = true then 1 else 0)).take (k - 1 - (if (p[i]'hlt == 33) = true then 1 else 0))) c.toNat != ((if (p[i]'hlt == 33) = true then 1 else 0) == 1))) := b2 c.toNat
  cases hc : (p[i]'hlt == 33)
  · rw [hc] at t b1
    have hR2 : Hid (f c.toNat = amongB ((p.drop i).take (i + k - 1 - i)) c.toNat) := by
      show _ = _
      rw [hR.out, hc, show i + k - 1 - i = k - 1 by omega]
      simp
    have hm := among_any p i (i + k - 1) c w hp (by omega) (by omega)
    rw [← hR2.out] at hm
    clear hR hR2 b1 b2 h h2 h3 hc
    generalize i + k - 1 = E at *
    generalize f c.toNat = R at *
    go_enter Tryd.func77, Tryd.ntmps77
    go_wp2_with fail
    refine hm.mono ?_
    rintro e w1 ⟨rfl, rfl⟩
    go_wp2
    go_ret
    exact ⟨rfl, rfl⟩
  · rw [hc] at t b1
    have hR2 : Hid ((!f c.toNat) = amongB ((p.drop (i + 1)).take (i + k - 1 - (i + 1))) c.toNat) := by
      show _ = _
      rw [hR.out, hc, show i + k - 1 - (i + 1) = k - 1 - 1 by omega]
      simp
    have hm := among_any p (i + 1) (i + k - 1) c w hp (by simp at b1; omega) (by omega)
    rw [← hR2.out, show (((i + 1 : Nat) : Int)) = (i : Int) + 1 by omega] at hm
    have k1 : IntKind.i64.wrap ((i : Int) + 1) = (i : Int) + 1 := IntWalk.i64_in _ (by omega)
    clear hR hR2 b1 b2 h h2 h3 hc
    generalize i + k - 1 = E at *
    generalize f c.toNat = R at *
    go_enter Tryd.func77, Tryd.ntmps77
    go_wp2_with fail
    refine hm.mono ?_
    rintro e w1 ⟨rfl, rfl⟩
    cases R
    · go_wp2
      go_ret
      exact ⟨rfl, rfl⟩
    · go_wp2
      go_ret
      exact ⟨rfl, rfl⟩
end Go.Proofs.YtcanlgcifnjfaaaDoor
