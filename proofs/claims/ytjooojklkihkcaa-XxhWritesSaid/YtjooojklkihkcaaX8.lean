/- The walks of XxhApart and XxhPieces. -/
import Derived.Test.YtjooojklkihkcaaX7
import Derived.Test.YtjooojklkihkcaaLib3
namespace Go.Proofs.Ytjooojklkihkcaa
open Go.ChangeShapes Go.WideShapes Go.ChangeAt Go.RowKit Go.Hd
variable {S S' : Nat → Prop}

theorem HAt_mono {w : World} {g : Nat} {seed : BitVec 64} {l : List UInt8} (h : HAt S w g seed l) (hs : ∀ k, S k → S' k) : HAt S' w g seed l := by
  obtain ⟨a, c, h1, h2, h3, h4, h5⟩ := h
  exact ⟨a, c, h1, h2, h3, h4, fun h => hs _ (h5 h)⟩
theorem HAt_lt {w : World} {g : Nat} {seed : BitVec 64} {l : List UInt8} (h : HAt S w g seed l) : g < w.heap.size := by
  obtain ⟨a, c, h1, _⟩ := h
  exact h1.lt
theorem HAt_below {w w' : World} {g : Nat} {seed : BitVec 64} {l : List UInt8} (h : HAt S w g seed l) (hb : Below w.heap.size w w') : HAt S w' g seed l := by
  obtain ⟨a, c, h1, h2, h3, h4, h5⟩ := h
  exact ⟨a, c, h1.below hb, h2.below hb, h3, h4, h5⟩
/-- Another block is written. -/
theorem HAt_far {w w' : World} {g : Nat} {r : Option Nat} {seed : BitVec 64} {l : List UInt8} (h : HAt S w g seed l) (hg : w.grownBy w' r) (h1 : r ≠ some g) (h2 : ∀ k, S k → r ≠ some k) : HAt S w' g seed l := by
  obtain ⟨a, c, k1, k2, k3, k4, k5⟩ := h
  exact ⟨a, c, k1.keptBy hg h1, k2.keptFar hg (fun h0 => h2 _ (k5 (by simpa using h0))), k3, k4, k5⟩
theorem HAt_other {w w' : World} {g g2 : Nat} {S2 : Nat → Prop} {seed seed2 : BitVec 64} {l l2 : List UInt8} (h : HAt S w g seed l) (h2 : HAt S2 w g2 seed2 l2) (hne : g ≠ g2) (hg : w.grownBy w' (some g2)) : HAt S w' g seed l := by
  obtain ⟨a, c, k1, k2, k3, k4, k5⟩ := h
  obtain ⟨a', c', j1, _⟩ := h2
  refine ⟨a, c, k1.grown hg hne, k2.keptFar hg (fun h0 e => ?_), k3, k4, k5⟩
  have := Blk.apart j1 (hasCells_free seed2 (fun k => lanes l2 seed2 k (l2.length / 32)) (by simp) (by simp)) k2 (by simpa using h0)
  simp at e
  omega

set_option maxHeartbeats 1000000 in
theorem apart_law (X Y : BitVec 64) (a a' a'' : Option Addr) (n n' n'' c c' c'' : Nat) (l0 m0 r0 : List UInt8) (w : World) (hn : n = l0.length) (hc : n ≤ c) (hl0 : Row w a (l0.map b8)) (hn' : n' = m0.length) (hc' : n' ≤ c') (hm0 : Row w a' (m0.map b8))
    (hn'' : n'' = r0.length) (hc'' : n'' ≤ c'') (hr0 : Row w a'' (r0.map b8)) :
    Calls Try.prog 6 #[.int .u64 (X.toNat : Int), .int .u64 (Y.toNat : Int), .slice a n c, .slice a' n' c', .slice a'' n'' c''] w fun e w' => e = .returned (.bool true) ∧ Below w.heap.size w w' := by
  subst hn hn' hn''
  have hl : Row w a ((l0.take 200).map b8) := by rw [List.map_take]; exact hl0.take 200
  have hm : Row w a' ((m0.take 200).map b8) := by rw [List.map_take]; exact hm0.take 200
  have hr : Row w a'' ((r0.take 200).map b8) := by rw [List.map_take]; exact hr0.take 200
  have kl : (l0.take 200).length ≤ 200 := List.length_take_le _ _
  have km : (m0.take 200).length ≤ 200 := List.length_take_le _ _
  have kr : (r0.take 200).length ≤ 200 := List.length_take_le _ _
  have el : min l0.length 200 = (l0.take 200).length := by simp; omega
  have em : min m0.length 200 = (m0.take 200).length := by simp; omega
  have er : min r0.length 200 = (r0.take 200).length := by simp; omega
  have cl : (l0.take 200).length ≤ c := by omega
  have cm : (m0.take 200).length ≤ c' := by omega
  have cr : (r0.take 200).length ≤ c'' := by omega
  generalize l0.take 200 = l at *
  generalize m0.take 200 = m at *
  generalize r0.take 200 = r at *
  go_enter Try.func6, Try.ntmps6
  go_wp2_with fail
  refine (cut_any a _ c 200 w (by decide) hc).mono ?_
  rintro e w1 ⟨rfl, rfl⟩
  go_wp2_with fail
  refine (cut_any a' _ c' 200 w (by decide) hc').mono ?_
  rintro e w1 ⟨rfl, rfl⟩
  go_wp2_with fail
  refine (cut_any a'' _ c'' 200 w (by decide) hc'').mono ?_
  rintro e w1 ⟨rfl, rfl⟩
  go_wp2_with fail
  refine (new_any (S := fun _ => True) X (by rfl)).mono ?_
  rintro e w1 ⟨g, rfl, hg, hH, hb1⟩
  go_wp2_with fail
  refine (new_any (S := fun _ => True) Y (by rfl)).mono ?_
  rintro e w2 ⟨g2, rfl, hg2, hH2, hb2⟩
  have hgl := HAt_lt hH
  have hX2 := HAt_below hH hb2
  have hne : g ≠ g2 := by omega
  have hb02 := Gr.trans hb1 hb2
  go_wp2_with fail
  refine (write_any hX2 (by first | rfl | exact el) (hl.below hb02) (by omega) (by simp; omega)).mono ?_
  rintro e w3 ⟨rfl, hX3, gr3⟩
  have hX3' := HAt_mono (S' := fun _ => True) hX3 (fun _ _ => trivial)
  have hY3 := HAt_other hH2 hX2 (Ne.symm hne) gr3
  have hb03 := Gr.ofGrown hb02 gr3 hg
  go_wp2_with fail
  refine (write_any hY3 (by first | rfl | exact em) (hm.below hb03) (by omega) (by simp; omega)).mono ?_
  rintro e w4 ⟨rfl, hY4, gr4⟩
  have hY4' := hY4
  have hX4 := HAt_other hX3' hY3 hne gr4
  have hb04 := Gr.ofGrown hb03 gr4 (Nat.le_trans hb1.size hg2)
  go_wp2_with fail
  refine (write_any hX4 (by first | rfl | exact er) (hr.below hb04) (by omega) (by simp; omega)).mono ?_
  rintro e w5 ⟨rfl, hX5, gr5⟩
  have hY5 := HAt_other hY4' hX4 (Ne.symm hne) gr5
  have hb05 := Gr.ofGrown hb04 gr5 hg
  clear hX2 hX3 hX3' hY3 hX4 hH hH2
  go_wp2_with fail
  refine (hsum_any hX5 (by simp; omega)).mono ?_
  rintro e w6 ⟨rfl, hb6⟩
  have hY6 := HAt_below hY5 hb6
  have hb06 := Gr.trans hb05 hb6
  go_wp2_with fail
  refine (copy_any a _ c l _ (by first | rfl | exact el) (hl.below hb06) (by omega)).mono ?_
  rintro e w7 ⟨v, rfl, hF⟩
  have hb07 := Gr.trans hb06 hF.2
  have hY7 := HAt_below hY6 hF.2
  obtain ⟨v', w8, hrun, hown, hgr⟩ := append_src (ty := 22) eB hF.1 (Src.ofRow eB.ht a'' r.length c'' (r.map b8) (by decide) (by simp) (hr.below hb07) (bytes_one r)) (by unfold maxLen; omega) (by omega) hF.2.size
  have hb8 : Below w6.heap.size w7 w8 := Below.ofGrown hgr hF.1 hF.2.size
  have hb08 : Below w.heap.size w w8 := hb07.trans (hb8.mono hb06.size)
  have hYlt := HAt_lt hY6
  have hY8 := HAt_far hY7 hgr (fun e => by have := (hF.1.lt g2 e).1; omega) (fun k hk e => by
    have := (hF.1.lt k e).1
    have := gr5.size
    have := hb6.size
    omega)
  obtain ⟨a8, c8, rfl, k1, k2, k3, _⟩ := owns_at hown
  rw [← List.map_append] at k3
  have ht1 : (((sumF (l ++ r) X).toNat : Int) == ((sumF (l ++ r) X).toNat : Int)) = true := by simp
  have ht2 : (((sumF m Y).toNat : Int) == ((sumF m Y).toNat : Int)) = true := by simp
  have hb08' := hb08
  clear hX5 hY4 hY4' hY5 hY6 hY7 hgr gr3 gr4 gr5 hb8 hF hown
  go_wp2_with (at_builtin; refine wpList_append_run hrun rfl rfl rfl rfl ?_)
  refine (xsum_any X (l := l ++ r) (by rfl) (by simp) k3 k1 (by simp; omega)).mono ?_
  rintro e w9 ⟨rfl, hb9⟩
  have hY9 := HAt_below hY8 hb9
  have hb09 := Gr.trans hb08 hb9
  go_wp2_with fail
  refine (hsum_any hY9 (by simp; omega)).mono ?_
  rintro e w10 ⟨rfl, hb10⟩
  have hb010 := Gr.trans hb09 hb10
  go_wp2_with fail
  refine (xsum_any Y (by rfl) (by first | rfl | exact em) (hm.below hb010) (by omega) (by omega)).mono ?_
  rintro e w11 ⟨rfl, hb11⟩
  go_wp2_with fail
  refine (lives3_any _).mono ?_
  rintro e w12 ⟨rfl, hb12⟩
  go_wp2
  go_ret
  exact ⟨rfl, Gr.trans (Gr.trans hb010 hb11) hb12⟩

/-- At the head of a round of pieces. -/
def XPRel (w : World) (g : Nat) (X : BitVec 64) (l : List UInt8) (m : Nat) (rest i : Value) (wr : World) : Prop :=
  ∃ (k p : Nat) (a : Option Addr) (c : Nat) (r : List UInt8), k ≤ m ∧ k ≤ 60 ∧ p ≤ l.length ∧ r = l.drop p ∧ i = .int .i64 k ∧ rest = .slice a r.length c ∧ r.length ≤ c ∧ Row w a (r.map b8) ∧ HAt (fun _ => True) wr g X (l.take p) ∧ Below w.heap.size w wr
set_option maxHeartbeats 1000000 in
theorem xpieces_law (X : BitVec 64) (asks : Bool) (a : Option Addr) (n c : Nat) (l0 : List UInt8) (a1 : Option Addr) (m c1 : Nat) (zs : List Int) (w : World) (hn : n = l0.length) (hc : n ≤ c) (hl0 : Row w a (l0.map b8))
    (hm : m = zs.length) (hmc : m ≤ maxLen) (hz : Row w a1 (zs.map (Value.int .i64))) :
    Calls Try.prog 5 #[.slice a n c, .int .u64 (X.toNat : Int), .slice a1 m c1, .bool asks] w fun e w' => e = .returned (.bool true) ∧ Below w.heap.size w w' := by
  subst hn
  unfold maxLen at hmc
  have hl : Row w a ((l0.take 1500).map b8) := by rw [List.map_take]; exact hl0.take 1500
  have hk : (l0.take 1500).length ≤ 1500 := List.length_take_le _ _
  have hml : min l0.length 1500 = (l0.take 1500).length := by simp; omega
  have hlc : (l0.take 1500).length ≤ c := by simp; omega
  generalize l0.take 1500 = l at *
  go_enter Try.func5, Try.ntmps5
  go_wp2_with fail
  refine (cut_any a _ c 1500 w (by decide) hc).mono ?_
  rintro e w1 ⟨rfl, rfl⟩
  go_wp2_with fail
  refine (new_any (S := fun _ => True) X (by rfl)).mono ?_
  rintro e w1 ⟨g, rfl, hg, hH, hb⟩
  obtain ⟨L, hL⟩ : ∃ L, L = l.length := ⟨_, rfl⟩
  rw [hml] at *
  go_wp2_with fail
  go_loopw [10, 11, 12] (fun rest i _ wr => XPRel w g X l m rest i wr) (fun _ i _ _ => 60 - (intOf i).toNat)
  case atStart => exact ⟨0, 0, a, c, l, Nat.zero_le _, Nat.zero_le _, Nat.zero_le _, rfl, rfl, rfl, hlc, hl, by rw [List.take_zero]; exact hH, hb⟩
  case round =>
    clear hH hb
    obtain ⟨k, p, a2, c2, r, hkm, hk6, hp, hr, rfl, rfl, hrc, hrow, hH, hb⟩ := hrel
    have HR := Lib.hid hr
    have hrl : r.length = l.length - p := by rw [hr, List.length_drop]
    have HRL := Lib.hid hrl
    have hr15 : r.length ≤ 1500 := by omega
    clear hr hrl
    have hrowW := hrow.below hb
    by_cases hlt : k < m ∧ k < 60
    · obtain ⟨hlt1, hlt2⟩ := hlt
      have hzk : k < zs.length := by omega
      have cz0 := hz.below hb
      have cz : wr.cell? ((hd a1).add k) = some (.int .i64 zs[k]) := cz0.cell (by simp [hzk])
      have sz : a1.isSome = true := hz.1 (by simp; omega)
      have hkI : (k : Int) < m := by omega
      have hkI2 : (k : Int) < 60 := by omega
      have hqr := (wN_bd zs[k] 0 r.length (Nat.zero_le _)).2
      obtain ⟨q, hq⟩ : ∃ q, q = wN zs[k] 0 r.length := ⟨_, rfl⟩
      rw [← hq] at hqr
      obtain ⟨a3, c3, hsl3, h31, h32, hrow3⟩ := cut_h (P := Try.prog) (t := 22) (e := 5) (s := 1) eB.ht (by kernel_rfl) hrowW (k2 := .i64) (j := (q : Int)) (q := q) (n := r.length) (c := c2) rfl (by omega)
      rw [Nat.mul_one, ← List.map_take] at hrow3
      obtain ⟨a4, c4, hsl4, h41, h42, hrow4⟩ := cut_l (P := Try.prog) (t := 22) (e := 5) (s := 1) eB.ht (by kernel_rfl) hrow (by simp) hrc (k1 := .i64) (i := (q : Int)) (p := q) rfl (by omega)
      rw [Nat.mul_one, ← List.map_drop] at hrow4
      have hl3 : (r.take q).length = q := by rw [List.length_take]; omega
      have hl4 : r.length - q = (r.drop q).length := by rw [List.length_drop]
      have HT : Hid (l.take p ++ r.take q = l.take (p + q)) := by
        show _ = _
        rw [List.take_add, HR.out]
      have HD : Hid (r.drop q = l.drop (p + q)) := by
        show _ = _
        rw [HR.out, List.drop_drop]
      obtain ⟨s, hs⟩ : ∃ s, s = r.take q := ⟨_, rfl⟩
      obtain ⟨s', hs'⟩ : ∃ s', s' = r.drop q := ⟨_, rfl⟩
      rw [← hs] at hrow3 hl3 HT
      rw [← hs'] at hrow4 hl4 HD
      rw [hl4] at hsl4 h41
      have HQ := Lib.hid hq
      have HL3 := Lib.hid hl3
      have hpq : p + q ≤ l.length := by have := HRL.out; omega
      have htl : (l.take p).length ≤ p := List.length_take_le _ _
      clear hq hs hs' hl3 hl4
      go_wp2_with fail
      refine (within_nat 0 r.length (by rfl) (by rfl)).mono ?_
      rintro e3 w3 ⟨rfl, rfl⟩
      rw [← HQ.out]
      go_wp2_with fail
      refine (write_any hH HL3.out.symm hrow3 h31 (by have := HL3.out; omega)).mono ?_
      rintro e3 w4 ⟨rfl, hH4, hg4⟩
      have hH4' := HAt_mono (S' := fun _ => True) hH4 (fun _ _ => trivial)
      have hb4 := Gr.ofGrown hb hg4 hg
      rw [HT.out] at hH4'
      clear hH4 hH hb cz cz0
      cases asks
      · go_wp2
        first
          | exact ⟨⟨k + 1, p + q, a4, c4, s', by omega, by omega, hpq, HD.out, (by first | rfl | go_num | (congr 1; omega)), rfl, h41, hrow4, hH4', hb4⟩, by simp [intOf] <;> omega⟩
          | (refine ⟨?_, by simp [intOf] <;> omega⟩; (repeat apply Exists.intro); exact ⟨⟨k + 1, p + q, a4, c4, s', by omega, by omega, hpq, HD.out, (by first | rfl | go_num | (congr 1; omega)), rfl, h41, hrow4, hH4', hb4⟩, rfl⟩)
      · go_wp2_with fail
        refine (hsum_any hH4' (by simp; omega)).mono ?_
        rintro e5 w5 ⟨rfl, hb5⟩
        have hH5 := HAt_below hH4' hb5
        have hb05 := Gr.trans hb4 hb5
        go_wp2
        first
          | exact ⟨⟨k + 1, p + q, a4, c4, s', by omega, by omega, hpq, HD.out, (by first | rfl | go_num | (congr 1; omega)), rfl, h41, hrow4, hH5, hb05⟩, by simp [intOf] <;> omega⟩
          | (refine ⟨?_, by simp [intOf] <;> omega⟩; (repeat apply Exists.intro); exact ⟨⟨k + 1, p + q, a4, c4, s', by omega, by omega, hpq, HD.out, (by first | rfl | go_num | (congr 1; omega)), rfl, h41, hrow4, hH5, hb05⟩, rfl⟩)
    · have hml2 : (l.take p).length + r.length ≤ 1500 := by have := HRL.out; rw [List.length_take]; omega
      have HT : Hid (l.take p ++ r = l) := by
        show _ = _
        rw [HR.out, List.take_append_drop]
      have ht1 : (((sumF l X).toNat : Int) == ((sumF l X).toNat : Int)) = true := by simp
      clear hz
      rcases Nat.lt_or_ge k m with h1 | h1
      · have h2 : ¬ (k : Int) < 60 := by omega
        have h1' : (k : Int) < m := by omega
        go_wp2_with fail
        refine (write_any hH (by rfl) hrowW hrc (by omega)).mono ?_
        rintro e3 w4 ⟨rfl, hH4, hg4⟩
        rw [HT.out] at hH4
        have hb4 := Gr.ofGrown hb hg4 hg
        clear hH hb hrow hrowW
        go_wp2_with fail
        refine (hsum_any hH4 (by omega)).mono ?_
        rintro e5 w5 ⟨rfl, hb5⟩
        have hH5 := HAt_below hH4 hb5
        have hb05 := Gr.trans hb4 hb5
        go_wp2_with fail
        refine (xsum_any X (by rfl) (by rfl) (hl.below hb05) hlc (by omega)).mono ?_
        rintro e6 w6 ⟨rfl, hb6⟩
        have hH6 := HAt_below hH5 hb6
        have hb06 := Gr.trans hb05 hb6
        go_wp2_with fail
        refine (hsum_any hH6 (by omega)).mono ?_
        rintro e7 w7 ⟨rfl, hb7⟩
        have hH7 := HAt_below hH6 hb7
        have hb07 := Gr.trans hb06 hb7
        go_wp2_with fail
        refine (hsum_any hH7 (by omega)).mono ?_
        rintro e8 w8 ⟨rfl, hb8⟩
        have hb08 := Gr.trans hb07 hb8
        go_wp2_with fail
        refine (lives3_any _).mono ?_
        rintro e9 w9 ⟨rfl, hb9⟩
        go_wp2
        go_ret
        exact ⟨rfl, Gr.trans hb08 hb9⟩
      · have h1' : ¬ (k : Int) < m := by omega
        go_wp2_with fail
        refine (write_any hH (by rfl) hrowW hrc (by omega)).mono ?_
        rintro e3 w4 ⟨rfl, hH4, hg4⟩
        rw [HT.out] at hH4
        have hb4 := Gr.ofGrown hb hg4 hg
        clear hH hb hrow hrowW
        go_wp2_with fail
        refine (hsum_any hH4 (by omega)).mono ?_
        rintro e5 w5 ⟨rfl, hb5⟩
        have hH5 := HAt_below hH4 hb5
        have hb05 := Gr.trans hb4 hb5
        go_wp2_with fail
        refine (xsum_any X (by rfl) (by rfl) (hl.below hb05) hlc (by omega)).mono ?_
        rintro e6 w6 ⟨rfl, hb6⟩
        have hH6 := HAt_below hH5 hb6
        have hb06 := Gr.trans hb05 hb6
        go_wp2_with fail
        refine (hsum_any hH6 (by omega)).mono ?_
        rintro e7 w7 ⟨rfl, hb7⟩
        have hH7 := HAt_below hH6 hb7
        have hb07 := Gr.trans hb06 hb7
        go_wp2_with fail
        refine (hsum_any hH7 (by omega)).mono ?_
        rintro e8 w8 ⟨rfl, hb8⟩
        have hb08 := Gr.trans hb07 hb8
        go_wp2_with fail
        refine (lives3_any _).mono ?_
        rintro e9 w9 ⟨rfl, hb9⟩
        go_wp2
        go_ret
        exact ⟨rfl, Gr.trans hb08 hb9⟩

section
variable {H : Type} {enc : TypeId × Value → H} {W : World} {base : Nat} {v0 v1 v2 v3 v4 : Value} {d0 d1 d2 d3 d4 : DataW H} {p0 p1 p2 p3 p4 : List MemPlace}
theorem xxhApart_calls (o0 : Value.okWide Try.prog W .any base 23 v0) (h0 : DataW.Trod enc Try.prog W 0 (fun _ => true) true 23 v0 d0 p0)
    (o1 : Value.okWide Try.prog W .any base 23 v1) (h1 : DataW.Trod enc Try.prog W 0 (fun _ => true) true 23 v1 d1 p1)
    (o2 : Value.okWide Try.prog W .any base 22 v2) (h2 : DataW.Trod enc Try.prog W 0 (fun _ => true) true 22 v2 d2 p2)
    (o3 : Value.okWide Try.prog W .any base 22 v3) (h3 : DataW.Trod enc Try.prog W 0 (fun _ => true) true 22 v3 d3 p3)
    (o4 : Value.okWide Try.prog W .any base 22 v4) (h4 : DataW.Trod enc Try.prog W 0 (fun _ => true) true 22 v4 d4 p4) :
    Calls Try.prog 6 #[v0, v1, v2, v3, v4] W fun e W' => e = .returned (.bool true) ∧ Below W.heap.size W W' := by
  obtain ⟨x, rfl, rfl, rfl, w0⟩ := open_int Try.underlying23 o0 h0
  obtain ⟨y, rfl, rfl, rfl, w1⟩ := open_int Try.underlying23 o1 h1
  obtain ⟨a, n, c, l, rfl, hn, hc, _, hl⟩ := open_byt Try.underlying22 Try.underlying5 (by kernel_rfl) o2 h2
  obtain ⟨a', n', c', l', rfl, hn', hc', _, hl'⟩ := open_byt Try.underlying22 Try.underlying5 (by kernel_rfl) o3 h3
  obtain ⟨a'', n'', c'', l'', rfl, hn'', hc'', _, hl''⟩ := open_byt Try.underlying22 Try.underlying5 (by kernel_rfl) o4 h4
  obtain ⟨X, rfl⟩ := u64_eq (u64_wf w0).1 (u64_wf w0).2
  obtain ⟨Y, rfl⟩ := u64_eq (u64_wf w1).1 (u64_wf w1).2
  exact apart_law X Y a a' a'' n n' n'' c c' c'' l l' l'' W hn hc hl hn' hc' hl' hn'' hc'' hl''
theorem xxhPieces_calls (o0 : Value.okWide Try.prog W .any base 22 v0) (h0 : DataW.Trod enc Try.prog W 0 (fun _ => true) true 22 v0 d0 p0)
    (o1 : Value.okWide Try.prog W .any base 23 v1) (h1 : DataW.Trod enc Try.prog W 0 (fun _ => true) true 23 v1 d1 p1)
    (o2 : Value.okWide Try.prog W .any base 36 v2) (h2 : DataW.Trod enc Try.prog W 0 (fun _ => true) true 36 v2 d2 p2)
    (o3 : Value.okWide Try.prog W .any base 4 v3) (h3 : DataW.Trod enc Try.prog W 0 (fun _ => true) true 4 v3 d3 p3) :
    Calls Try.prog 5 #[v0, v1, v2, v3] W fun e W' => e = .returned (.bool true) ∧ Below W.heap.size W W' := by
  obtain ⟨a, n, c, l, rfl, hn, hc, _, hl⟩ := open_byt Try.underlying22 Try.underlying5 (by kernel_rfl) o0 h0
  obtain ⟨x, rfl, rfl, rfl, w1⟩ := open_int Try.underlying23 o1 h1
  obtain ⟨a1, m, c1, zs, rfl, hm, hmc, hcm, hz, _⟩ := open_nums Try.underlying36 Try.underlying3 (by kernel_rfl) o2 h2
  obtain ⟨asks, rfl, _⟩ := open_bool Try.underlying4 o3 h3
  obtain ⟨X, rfl⟩ := u64_eq (u64_wf w1).1 (u64_wf w1).2
  exact xpieces_law X asks a n c l a1 m c1 zs W hn hc hl hm (Nat.le_trans hmc hcm) hz
end
end Go.Proofs.Ytjooojklkihkcaa
