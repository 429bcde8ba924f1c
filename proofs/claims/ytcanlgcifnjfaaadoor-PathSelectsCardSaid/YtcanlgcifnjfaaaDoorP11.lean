/- Layer 20: rows of texts compared; Parts, Parent. -/
import Derived.Test.YtcanlgcifnjfaaaDoorP10
set_option maxRecDepth 20000
namespace Go.Hd
def parentF (s : List UInt8) : List UInt8 × Bool := if checkF s = 0 ∧ 1 < (cutP s).length then (joinP (cutP s).dropLast, true) else ([], false)
theorem last_cases (l : List UInt8) : (Lib.lastIndexByte (str l) 47 = -1 ∧ cutP l = [l]) ∨ ∃ i, i < l.length ∧ Lib.lastIndexByte (str l) 47 = (i : Int) ∧ 1 < (cutP l).length ∧ joinP (cutP l).dropLast = l.take i := by
  have hsz : (str l).size = l.length := str_size l
  have hat : ∀ j, j < l.length → (((str l).data[j]!).toNat : Int) = ((l[j]!).toNat : Int) := fun j hj => by simp [str]
  rcases Lib.lastIdx_spec (str l) 47 (str l).size with ⟨h1, h2⟩ | ⟨i, h0, h1, h2, h3⟩
  · left
    refine ⟨h1, cutP_one l (fun hm => ?_)⟩
    obtain ⟨j, hj, e⟩ := List.getElem_of_mem hm
    have := h2 j (by rw [hsz]; exact hj)
    rw [hat j hj, getElem!_pos l j hj, e] at this
    exact this rfl
  · right
    rw [hsz] at h0 h3
    refine ⟨i, h0, h1, ?_⟩
    have hi : l[i] = 47 := by
      rw [hat i h0, getElem!_pos l i h0] at h2
      exact UInt8.toNat_inj.1 (by have h47 : (47 : UInt8).toNat = 47 := rfl; omega)
    have hno : 47 ∉ l.drop (i + 1) := fun hm => by
      obtain ⟨j, hj, e⟩ := List.getElem_of_mem hm
      rw [List.getElem_drop] at e
      have hj2 : i + 1 + j < l.length := by simp at hj; omega
      have := h3 (i + 1 + j) (by omega) hj2
      rw [hat _ hj2, getElem!_pos l _ hj2, e] at this
      exact this rfl
    have e : l = l.take i ++ 47 :: l.drop (i + 1) := by
      conv => lhs; rw [← List.take_append_drop i l]
      rw [List.drop_eq_getElem_cons h0, hi]
    have hc : cutP l = cutP (l.take i) ++ [l.drop (i + 1)] := by
      conv => lhs; rw [e]
      rw [cutP_begin, cutP_one _ hno]
    rw [hc]
    refine ⟨?_, ?_⟩
    · have := List.length_pos_iff.2 (cutP_ne (l.take i))
      rw [List.length_append]; simp; omega
    · rw [List.dropLast_concat, joinP_cutP]
end Go.Hd
namespace Go.Proofs.YtcanlgcifnjfaaaDoor
open Go.RowKit Go.Hd

theorem errno_any (b : Bool) (w : World) : Calls Tryd.prog 21 #[.bool b] w fun e w' => e = .returned (.int .i64 (if b then 0 else 8)) ∧ w = w' := by
  cases b
  · go_enter Tryd.func21, Tryd.ntmps21
    go_wp2
    go_ret
    exact ⟨rfl, rfl⟩
  · go_enter Tryd.func21, Tryd.ntmps21
    go_wp2
    go_ret
    exact ⟨rfl, rfl⟩
def PartsP (w : World) (s : List UInt8) (e : Ending) (w' : World) : Prop := (∃ (a : Option Addr) (c : Nat) (ks : List (List UInt8)), e = .returned (.slice a ks.length c) ∧ Row w' a (ks.map strV) ∧ ks = if checkF s = 0 then cutP s else []) ∧ Below w.heap.size w w'
theorem parts_any (s : List UInt8) (w : World) (hs : s.length ≤ 1000000) :
    Calls Tryd.prog 17 #[.string (str s)] w fun e w' => PartsP w s e w' := by
  have hck := check_any s w hs
  have hsp := fun w' => split_any s w' hs
  rcases checkF_cases s with h | h
  · have hR : Hid ((if checkF s = 0 then cutP s else []) = cutP s) := by show _ = _; rw [if_pos h]
    rw [h] at hck
    clear h hs
    go_enter Tryd.func17, Tryd.ntmps17
    go_wp2_with fail
    refine hck.mono ?_
    rintro e w1 ⟨rfl, hb⟩
    go_wp2_with fail
    refine (hsp _).mono ?_
    rintro e w2 ⟨rfl, hw⟩
    have hrow : Hid (Row w2 (some ⟨w1.heap.size, 0, none⟩) ((cutP s).map strV)) := by show Row _ _ _; rw [hw]; exact texts_row
    have hb2 : Hid (Below w.heap.size w w2) := by show Below _ _ _; rw [hw]; exact Gr.trans hb ((Below.refl _ _).alloc (Nat.le_refl _) _)
    clear hw
    go_wp2
    go_ret
    exact ⟨⟨_, _, cutP s, rfl, hrow.out, hR.out.symm⟩, hb2.out⟩
  · have hR : Hid ((if checkF s = 0 then cutP s else []) = []) := by show _ = _; rw [if_neg (by rw [h]; decide)]
    rw [h] at hck
    clear h hs hsp
    go_enter Tryd.func17, Tryd.ntmps17
    go_wp2_with fail
    refine hck.mono ?_
    rintro e w1 ⟨rfl, hb⟩
    go_wp2
    go_ret
    exact ⟨⟨none, 0, [], rfl, Row.nil _ _, hR.out.symm⟩, hb⟩
theorem parent_any (s : List UInt8) (w : World) (hs : s.length ≤ 1000000) :
    Calls Tryd.prog 18 #[.string (str s)] w fun e w' => e = .returned (.tuple #[.string (str (parentF s).1), .bool (parentF s).2]) ∧ Below w.heap.size w w' := by
  have hz : (str s).size = s.length := str_size s
  have hli := Tryd.strings_LastIndex_one (str s) ⟨#[47]⟩ rfl (by rw [hz]; omega) w
  have e47 : (((⟨#[47]⟩ : ByteArray)[0]'(by decide)).toNat : Int) = 47 := rfl
  rw [e47] at hli
  have hck := fun w' => check_any s w' hs
  have hF : Hid (parentF s = if checkF s = 0 ∧ 1 < (cutP s).length then (joinP (cutP s).dropLast, true) else ([], false)) := rfl
  rcases last_cases s with ⟨h1, h2⟩ | ⟨i, hi, h1, h2, h3⟩
  · rw [h1] at hli
    have hR : Hid (parentF s = ([], false)) := by show _ = _; rw [hF.out, h2, if_neg (by simp)]
    clear h1 h2 hF hs hck
    go_enter Tryd.func18, Tryd.ntmps18
    go_wp2_with fail
    refine hli.mono ?_
    rintro e w1 ⟨rfl, rfl⟩
    go_wp2
    go_ret2
    exact ⟨by rw [hR.out]; rfl, Below.refl _ _⟩
  · rw [h1] at hli
    have i0 : (0 : Int) ≤ (i : Int) := by omega
    have i1 : (i : Int) ≤ (s.length : Int) := by omega
    have i2 : ¬ (i : Int) < 0 := by omega
    rcases checkF_cases s with h | h
    · have hR : Hid (parentF s = (s.take i, true)) := by show _ = _; rw [hF.out, if_pos ⟨h, h2⟩, h3]
      rw [h] at hck
      have e1 := str_take s i
      clear h1 h2 h3 h hF hs hi
      generalize s.take i = p at *
      go_enter Tryd.func18, Tryd.ntmps18
      go_wp2_with fail
      refine hli.mono ?_
      rintro e w1 ⟨rfl, rfl⟩
      go_wp2_with fail
      refine (hck _).mono ?_
      rintro e w2 ⟨rfl, hb⟩
      go_wp2
      go_ret2
      exact ⟨by rw [hR.out]; rfl, hb⟩
    · have hR : Hid (parentF s = ([], false)) := by show _ = _; rw [hF.out, if_neg (fun hh => absurd (h ▸ hh.1) (by decide))]
      rw [h] at hck
      clear h1 h2 h3 h hF hs hi
      go_enter Tryd.func18, Tryd.ntmps18
      go_wp2_with fail
      refine hli.mono ?_
      rintro e w1 ⟨rfl, rfl⟩
      go_wp2_with fail
      refine (hck _).mono ?_
      rintro e w2 ⟨rfl, hb⟩
      go_wp2
      go_ret2
      exact ⟨by rw [hR.out]; rfl, hb⟩
set_option maxHeartbeats 2000000 in
theorem rsame6_any {a b : Option Addr} {n m c d : Nat} {X Y : List (List UInt8)} {w : World} (hn : n = X.length) (hm : m = Y.length) (hx : Row w a (X.map strV)) (hy : Row w b (Y.map strV)) (hl : X.length ≤ 10000000) :
    Calls Tryd.prog 22 #[.slice a n c, .slice b m d] w fun e w' => e = .returned (.bool (X == Y)) ∧ ∃ k, w' = w.drewN k := by
  subst hn hm
  by_cases hlen : X.length = Y.length
  case neg =>
    have t1 : ((X.length : Int) != (Y.length : Int)) = true := by simpa using fun h => hlen (by exact_mod_cast h)
    have hR : Hid ((X == Y) = false) := by show _ = _; rw [beq_eq_false_iff_ne]; exact fun e => hlen (by rw [e])
    clear hlen hx hy
    go_enter Tryd.func22, Tryd.ntmps22
    go_wp2
    go_ret
    exact ⟨by rw [hR.out]; rfl, 0, rfl⟩
  have t1 : ((X.length : Int) != (Y.length : Int)) = false := by rw [hlen]; simp
  have HLEN := Lib.hid hlen
  have HL := Lib.hid hl
  clear hlen hl
  go_enter Tryd.func22, Tryd.ntmps22
  go_wp2
  go_loopw [5] (fun i wr => ∃ (j k : Nat), i = .int .i64 j ∧ j ≤ X.length ∧ Hid (X.take j = Y.take j) ∧ Hid (wr = w.drewN k)) (fun i _ => X.length - (intOf i).toNat)
  case atStart => exact ⟨0, 0, rfl, Nat.zero_le _, Lib.hid rfl, Lib.hid rfl⟩
  case round =>
    obtain ⟨j, k, rfl, hj, hT, hwr⟩ := hrel
    have HX : Hid (Row wr a (X.map strV) ∧ Row wr b (Y.map strV)) := by
      show _ ∧ _
      rw [hwr.out]; exact ⟨hx.drewN k, hy.drewN k⟩
    have j0 : (0 : Int) ≤ (j : Int) := by omega
    have jb : IntKind.i64.wrap ((j : Int) + 1) = (j : Int) + 1 := IntWalk.i64_in _ (by have := HL.out; omega)
    by_cases h1 : j < X.length
    · have h2 : j < Y.length := by have := HLEN.out; omega
      have i1 : (j : Int) < (X.length : Int) := by omega
      have i2 : (j : Int) < (Y.length : Int) := by omega
      have q1 : wr.cell? ((hd a).add j) = some (strV X[j]) := HX.out.1.cell (by simp [h1])
      have s1 : a.isSome = true := HX.out.1.isSome (i := j) (by simp; omega)
      have q2 : wr.cell? ((hd b).add j) = some (strV Y[j]) := HX.out.2.cell (by simp [h2])
      have s2 : b.isSome = true := HX.out.2.isSome (i := j) (by simp; omega)
      unfold strV at q1 q2
      have hE : Hid (((str X[j]).toList = (str Y[j]).toList) ↔ X[j] = Y[j]) := by show _ ↔ _; rw [str_toList, str_toList]
      have hS : Hid (X[j] = Y[j] → X.take (j + 1) = Y.take (j + 1)) := fun h => by
        rw [List.take_succ_eq_append_getElem h1, List.take_succ_eq_append_getElem h2, hT.out, h]
      have hN : Hid (X[j] ≠ Y[j] → (X == Y) = false) := fun h => by
        rw [beq_eq_false_iff_ne]
        intro e
        subst e
        exact h rfl
      have hD : Hid (∀ m, wr.drewN m = w.drewN (k + m)) := fun m => by rw [hwr.out, drewN_two]
      generalize X[j] = x at *
      generalize Y[j] = y at *
      by_cases hxy : x = y
      · have t2 : ((str x).toList == (str y).toList) = true := by rw [beq_iff_eq]; exact hE.out.2 hxy
        have hS2 : Hid (X.take (j + 1) = Y.take (j + 1)) := hS.out hxy
        clear hxy hE hN hS hT
        go_wp2
        go_quiet (fail)
        go_wp2
        first
          | exact ⟨⟨j + 1, _, (by first | rfl | go_num | (congr 1; omega)), by omega, hS2, Lib.hid (hD.out _)⟩, by simp [intOf] <;> omega⟩
          | (refine ⟨?_, by simp [intOf] <;> omega⟩; (repeat apply Exists.intro); exact ⟨⟨j + 1, _, (by first | rfl | go_num | (congr 1; omega)), by omega, hS2, Lib.hid (hD.out _)⟩, rfl⟩)
      · have t2 : ((str x).toList == (str y).toList) = false := by rw [beq_eq_false_iff_ne]; exact fun e => hxy (hE.out.1 e)
        have hR := Lib.hid (hN.out hxy)
        clear hxy hE hN hS hT
        go_wp2
        go_quiet (fail)
        go_wp2
        go_ret
        exact ⟨by rw [hR.out]; rfl, _, hD.out _⟩
    · obtain rfl : j = X.length := by omega
      have hR : Hid ((X == Y) = true) := by
        show _ = _
        have := hT.out
        rw [List.take_length, HLEN.out, List.take_length] at this
        rw [this]; simp
      go_wp2
      go_ret
      exact ⟨by rw [hR.out]; rfl, k, hwr.out⟩
end Go.Proofs.YtcanlgcifnjfaaaDoor
