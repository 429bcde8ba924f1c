/- Layer 20: the document's Joined, Clean, Less, Begins; rows of texts compared. -/
import Derived.Test.YtcanlgcifnjfaaaDoorP8
set_option maxRecDepth 20000
namespace Go.Hd
theorem hd_add00 (a : Option Addr) : (hd a).add 0 = hd a := by unfold Addr.add; simp
theorem joinP_take (ks : List (List UInt8)) (j : Nat) : (joinP (ks.take j)).length ≤ (joinP ks).length := by
  have h := sum_sub (List.take_sublist j ks)
  rw [joinP_len, joinP_len]; omega
theorem joinP_snoc : ∀ (ks : List (List UInt8)) (p : List UInt8), ks ≠ [] → joinP (ks ++ [p]) = joinP ks ++ 47 :: p := fun ks p h => joinP_app ks [p] h (by simp)
end Go.Hd
namespace Go.Proofs.YtcanlgcifnjfaaaDoor
open Go.RowKit Go.Hd

theorem str_add (a b : List UInt8) (h : a.length + b.length ≤ 100000000) : Op.stringOp .add (str a) (str b) = pure (.string (str (a ++ b))) := by
  have h1 : (str a).size = a.length := str_size a
  have h2 : (str b).size = b.length := str_size b
  unfold Op.stringOp
  simp only [str_app]
  rw [if_neg]
  rw [h1, h2]
  show ¬ _ > (9223372036854775807 : Int)
  omega
set_option maxHeartbeats 2000000 in
theorem rjoined_any {a : Option Addr} {n c : Nat} {ks : List (List UInt8)} {w : World} (hn : n = ks.length) (hr : Row w a (ks.map strV)) (hl : (joinP ks).length ≤ 2000000) (hk : ks.length ≤ 1000001) :
    Calls Tryd.prog 23 #[.slice a n c] w fun e w' => e = .returned (.string (str (joinP ks))) ∧ w = w' := by
  subst hn
  have HK := Lib.hid hk
  have HL := Lib.hid hl
  clear hk hl
  go_enter Tryd.func23, Tryd.ntmps23
  go_wp2
  go_loopw [3, 4] (fun u i wr => ∃ (j : Nat) (t : List UInt8), u = .string (str t) ∧ j ≤ ks.length ∧ i = .int .i64 j ∧ Hid (t = joinP (ks.take j)) ∧ Hid (wr = w)) (fun _ i _ => ks.length - (intOf i).toNat)
  case atStart => exact ⟨0, [], rfl, Nat.zero_le _, rfl, Lib.hid rfl, Lib.hid rfl⟩
  case round =>
    obtain ⟨j, t, rfl, hj, rfl, ht, hwr⟩ := hrel
    have hwr := hwr.out
    subst hwr
    have j0 : (0 : Int) ≤ (j : Int) := by omega
    have jb : IntKind.i64.wrap ((j : Int) + 1) = (j : Int) + 1 := IntWalk.i64_in _ (by have := HK.out; omega)
    by_cases hlt : j < ks.length
    · have q1 : wr.cell? ((hd a).add j) = some (strV ks[j]) := hr.cell (by simp [hlt])
      have s1 : a.isSome = true := hr.isSome (i := j) (by simp; omega)
      unfold strV at q1
      have j1 : (j : Int) < (ks.length : Int) := by omega
      have hA : Hid (joinP (ks.take (j + 1)) = joinP (ks.take j ++ [ks[j]])) := by show _ = _; rw [List.take_succ_eq_append_getElem hlt]
      have hlen := Nat.le_trans (joinP_take ks (j + 1)) HL.out
      have hlt2 := Nat.le_trans (joinP_take ks j) HL.out
      have hne : j ≠ 0 → ks.take j ≠ [] := fun h e => by
        have := congrArg List.length e
        rw [List.length_take] at this
        simp only [List.length_nil] at this; omega
      by_cases h0 : j = 0
      · subst h0
        have hF : Hid (ks[0] = joinP (ks.take (0 + 1))) := by show _ = _; rw [hA.out]; rfl
        have ht0 : t = [] := by rw [ht.out]; rfl
        have e1 : Op.stringOp .add (str t) (str ks[0]) = pure (.string (str ks[0])) := by
          rw [ht0, str_add [] ks[0] (by have h3 := hF.out; rw [← h3] at hlen; simp; omega), List.nil_append]
        have q0 : wr.cell? (hd a) = some (.string (str ks[0])) := by rw [hd_add00] at q1; exact q1
        generalize ks[0] = p at *
        clear hA hne hlen hlt2 ht0
        go_wp2
        first
          | exact ⟨⟨1, p, rfl, by omega, (by first | rfl | go_num | (congr 1; omega)), hF, (by first | exact Lib.hid rfl | exact Lib.hid trivial)⟩, by simp [intOf] <;> omega⟩
          | (refine ⟨?_, by simp [intOf] <;> omega⟩; (repeat apply Exists.intro); exact ⟨⟨1, p, rfl, by omega, (by first | rfl | go_num | (congr 1; omega)), hF, (by first | exact Lib.hid rfl | exact Lib.hid trivial)⟩, rfl⟩)
      · have hF : Hid (t ++ [47] ++ ks[j] = joinP (ks.take (j + 1))) := by
          show _ = _
          rw [hA.out, joinP_snoc _ _ (hne h0), ← ht.out]; simp
        have hj3 : (t ++ [47] ++ ks[j]).length ≤ 2000000 := by rw [hF.out]; exact hlen
        have htl : t.length ≤ 2000000 := by rw [ht.out]; exact hlt2
        have e1 : Op.stringOp .add (str t) ⟨#[47]⟩ = pure (.string (str (t ++ [47]))) := str_add t [47] (by simp; omega)
        have e2 : Op.stringOp .add (str (t ++ [47])) (str ks[j]) = pure (.string (str (t ++ [47] ++ ks[j]))) := str_add _ _ (by rw [List.length_append] at hj3; omega)
        have j2 : (0 : Int) < (j : Int) := by omega
        generalize ks[j] = p at *
        generalize t ++ [47] ++ p = t3 at *
        generalize t ++ [47] = t2 at *
        clear hA hne hlen hlt2 hj3 htl
        go_wp2
        first
          | exact ⟨⟨j + 1, t3, rfl, by omega, (by first | rfl | go_num | (congr 1; omega)), hF, (by first | exact Lib.hid rfl | exact Lib.hid trivial)⟩, by simp [intOf] <;> omega⟩
          | (refine ⟨?_, by simp [intOf] <;> omega⟩; (repeat apply Exists.intro); exact ⟨⟨j + 1, t3, rfl, by omega, (by first | rfl | go_num | (congr 1; omega)), hF, (by first | exact Lib.hid rfl | exact Lib.hid trivial)⟩, rfl⟩)
    · obtain rfl : j = ks.length := by omega
      have hF : Hid (t = joinP ks) := by show _ = _; rw [ht.out, List.take_length]
      go_wp2
      go_ret
      exact ⟨by rw [← hF.out]; rfl, rfl⟩
theorem rbegins_any (s t : List UInt8) (w : World) :
    Calls Tryd.prog 24 #[.string (str s), .string (str t)] w fun e w' => e = .returned (.bool (beginsB s t)) ∧ w = w' := by
  have h1 : (str s).size = s.length := str_size s
  have h2 : (str t).size = t.length := str_size t
  have hB : Hid (beginsB s t = (decide (t.length ≤ s.length) && (s.take t.length == t))) := (Lib.hasPrefix_of_take s t).symm
  by_cases hlt : t.length ≤ s.length
  · have i1 : (t.length : Int) ≤ (s.length : Int) := by omega
    have e1 : (str s).extract 0 t.length = str (s.take t.length) := str_take s t.length
    have hE : Hid (((str (s.take t.length)).toList == (str t).toList) = beginsB s t) := by show _ = _; rw [hB.out, decide_eq_true hlt, str_toList, str_toList]; rfl
    generalize s.take t.length = q at *
    clear hB hlt
    go_enter Tryd.func24, Tryd.ntmps24
    go_wp2
    all_goals
      go_ret
      refine ⟨?_, rfl⟩
      rw [← hE.out]
      first | rfl | (rename_i h; rw [h]; simp) | (rename_i h; simp [h])
  · have i1 : ¬ (t.length : Int) ≤ (s.length : Int) := by omega
    have hE : Hid (beginsB s t = false) := by show _ = _; rw [hB.out, decide_eq_false hlt]; rfl
    clear hB hlt
    go_enter Tryd.func24, Tryd.ntmps24
    go_wp2
    go_ret
    exact ⟨by rw [hE.out]; rfl, rfl⟩
end Go.Proofs.YtcanlgcifnjfaaaDoor
