/- The walk of LzTail. -/
import Derived.Test.YtjecejjlpccgdaaZ6
namespace Go.Proofs.Ytjecejjlpccgdaa
open Go.ChangeShapes Go.WideShapes Go.ChangeAt Go.RowKit Go.Hd

/-- What Extended answers: the length, where it goes on, whether there is one. -/
def ExR (l : List UInt8) (R : Option (Nat × List UInt8)) (m q : Nat) (ok : Bool) : Prop :=
  match R with
  | some (m', l') => m = m' ∧ q = l.length - l'.length ∧ ok = true
  | none => m = 0 ∧ q = l.length ∧ ok = false
def ExPost (l : List UInt8) (R : Option (Nat × List UInt8)) (w : World) (e : Ending) (w' : World) : Prop :=
  ∃ m q ok, e = .returned (.tuple #[.int .i64 ((m : Nat) : Int), .int .i64 ((q : Nat) : Int), .bool ok]) ∧ ExR l R m q ok ∧ w = w'
def ExRel (l : List UInt8) (p k : Nat) (R : Option (Nat × List UInt8)) (at_ n : Value) : Prop :=
  ∃ q s : Nat, p ≤ q ∧ q ≤ l.length ∧ at_ = .int .i64 q ∧ n = .int .i64 s ∧ extR (l.drop q) s = R ∧ s ≤ k + 255 * (q - p)
theorem extended_any {x y : Int} {p k : Nat} {a : Option Addr} {n c : Nat} {l : List UInt8} {w : World} (hx : x = (p : Int)) (hy : y = (k : Int)) (hn : n = l.length) (hl : Row w a (l.map b8)) (hp : p ≤ l.length) (hk : k < 16) (hm : l.length ≤ 100000) :
    Calls Try.prog 19 #[.slice a n c, .int .i64 x, .int .i64 y] w (ExPost l (extRd (l.drop p) k) w) := by
  subst hx hy hn
  by_cases h15 : k < 15
  · have hI : (k : Int) < 15 := by omega
    have HR : Hid (ExR l (extRd (l.drop p) k) k p true) := by
      show ExR _ _ _ _ _
      unfold extRd
      rw [if_pos h15]
      exact ⟨rfl, by rw [List.length_drop]; omega, rfl⟩
    go_enter Try.func19, Try.ntmps19
    go_wp2
    go_ret3
    exact ⟨k, p, true, rfl, HR.out, rfl⟩
  · have hI : ¬ (k : Int) < 15 := by omega
    obtain ⟨R, hR⟩ : ∃ R, R = extRd (l.drop p) k := ⟨_, rfl⟩
    rw [← hR]
    have hR0 : extR (l.drop p) k = R := by rw [hR]; unfold extRd; rw [if_neg h15]
    clear hR
    go_enter Try.func19, Try.ntmps19
    go_wp2
    go_loop [1, 2] (fun at_ n => ExRel l p k R at_ n) (fun at_ _ => l.length - (intOf at_).toNat)
    case atStart => exact ⟨p, k, Nat.le_refl _, hp, rfl, rfl, hR0, by omega⟩
    case round =>
      clear hR0
      obtain ⟨q, s, hpq, hql, rfl, rfl, hR, hs⟩ := hrel
      by_cases hlt : q < l.length
      · have hqI : (q : Int) < l.length := by omega
        have cb := hl.byte hlt
        have sb := hl.byteSome hlt
        have hd : l.drop q = l[q] :: l.drop (q + 1) := List.drop_eq_getElem_cons hlt
        rw [hd] at hR
        obtain ⟨ch, hch⟩ : ∃ ch, ch = l[q] := ⟨_, rfl⟩
        rw [← hch] at cb hR
        have hcb : (ch.toNat : Int) ≤ 255 := u8_le ch
        have hq1 : ((q : Int) + 1 - 1) = q := by omega
        clear hd hch
        by_cases h255 : ch.toNat < 255
        · have h255I : (ch.toNat : Int) < 255 := by omega
          have HE : Hid (ExR l R (s + ch.toNat) (q + 1) true) := by
            show ExR _ _ _ _ _
            rw [← hR, extR, if_pos h255]
            exact ⟨rfl, by rw [List.length_drop]; omega, rfl⟩
          clear hR
          go_wp2
          go_ret3
          exact ⟨s + ch.toNat, q + 1, true, by simp, HE.out, rfl⟩
        · have h255I : ¬ (ch.toNat : Int) < 255 := by omega
          have h255E : ch.toNat = 255 := by have := ch.toNat_lt; omega
          have HE : Hid (extR (l.drop (q + 1)) (s + 255) = R) := by
            show _ = _
            rw [← hR]
            conv => rhs; rw [extR, if_neg h255]
          have HCE := Lib.hid h255E
          clear hR h255E
          go_wp2
          first
            | exact ⟨⟨q + 1, s + 255, by omega, by omega, (by first | rfl | go_num | (congr 1; omega)), by have := HCE.out; (congr 1; omega), HE.out, by omega⟩, by simp [intOf] <;> omega⟩
            | (refine ⟨?_, by simp [intOf] <;> omega⟩; (repeat apply Exists.intro); exact ⟨⟨q + 1, s + 255, by omega, by omega, (by first | rfl | go_num | (congr 1; omega)), by have := HCE.out; (congr 1; omega), HE.out, by omega⟩, rfl⟩)
      · have hqI : ¬ (q : Int) < l.length := by omega
        have hqe : q = l.length := by omega
        have HE : Hid (ExR l R 0 q false) := by
          show ExR _ _ _ _ _
          rw [← hR, hqe, List.drop_length]
          exact ⟨rfl, rfl, rfl⟩
        clear hR hqe
        go_wp2
        go_ret3
        exact ⟨0, q, false, rfl, HE.out, rfl⟩

theorem drop_suffix {C pre X : List UInt8} {p : Nat} (h : C.drop p = pre ++ X) (hp : p ≤ C.length) : C.drop (p + pre.length) = X ∧ C.length = p + pre.length + X.length := by
  constructor
  · rw [← List.drop_drop, h, List.drop_left]
  · have := congrArg List.length h
    rw [List.length_drop, List.length_append] at this
    omega
theorem drop_head {C X : List UInt8} {t : UInt8} {p : Nat} (h : C.drop p = t :: X) : ∃ hp : p < C.length, C[p] = t ∧ C.drop (p + 1) = X := by
  have hp : p < C.length := by
    rcases Nat.lt_or_ge p C.length with h1 | h1
    · exact h1
    · rw [List.drop_eq_nil_of_le h1] at h; cases h
  rw [List.drop_eq_getElem_cons hp] at h
  injection h with h1 h2
  exact ⟨hp, h1, h2⟩
def TlRel (l C : List UInt8) (w2 : World) (told at_ many : Value) (wr : World) : Prop :=
  ∃ t p m : Nat, told = .int .i64 t ∧ at_ = .int .i64 p ∧ many = .int .i64 m ∧ p ≤ C.length ∧ Enc l t (C.drop p) ∧ (m = 0 ∨ 0 < t) ∧ m ≤ p ∧ t ≤ l.length ∧ wr = w2
set_option maxHeartbeats 2000000 in
set_option maxRecDepth 100000 in
theorem tail_law (a : Option Addr) (n c : Nat) (l0 : List UInt8) (w : World) (hn : n = l0.length) (hc : n ≤ c) (hl0 : Row w a (l0.map b8)) :
    Calls Try.prog 6 #[.slice a n c] w fun e w' => e = .returned (.bool true) ∧ Below w.heap.size w w' := by
  subst hn
  have hl : Row w a ((l0.take 2000).map b8) := by rw [List.map_take]; exact hl0.take 2000
  have hk : (l0.take 2000).length ≤ 2000 := List.length_take_le _ _
  have hkc : (l0.take 2000).length ≤ c := by simp; omega
  have hml : min l0.length 2000 = (l0.take 2000).length := by simp; omega
  generalize l0.take 2000 = l at *
  have hbd := enc_bound (squeeze_enc l)
  rw [Nat.sub_zero] at hbd
  have henc := squeeze_enc l
  go_enter Try.func6, Try.ntmps6
  go_wp2_with fail
  refine (cut_any a _ c 2000 w (by decide) hc).mono ?_
  rintro e w1 ⟨rfl, rfl⟩
  go_wp2_with fail
  refine (squeeze_any (by first | rfl | exact hml) hl (by omega) (by omega)).mono ?_
  rintro e w2 ⟨v2, rfl, hF2⟩
  obtain ⟨a2, c2, rfl, hr2, hb2, hm2, _⟩ := hF2.open
  generalize squeezeF l = C at *
  have hC5 : C.length ≤ 5000 := by omega
  clear hF2 hm2 hl hl0 hbd
  rw [hml] at *
  go_wp2
  go_loopw [5, 6, 7, 8, 9, 10, 11, 12, 13, 14] (fun told at_ many _ _ _ _ _ _ _ wr => TlRel l C w2 told at_ many wr) (fun _ at_ _ _ _ _ _ _ _ _ _ => C.length + 1 - (intOf at_).toNat)
  case atStart => exact ⟨0, 0, 0, rfl, rfl, rfl, Nat.zero_le _, henc, .inl rfl, Nat.le_refl _, Nat.zero_le _, rfl⟩
  case round =>
    clear henc
    obtain ⟨t, p, m, rfl, rfl, rfl, hp, hE, hmt, hmp, htl, rfl⟩ := hrel
    generalize hL : C.drop p = L at hE
    cases hE with
    | last _ h1 h2 =>
      unfold seqL at hL
      rw [if_pos rfl, List.append_nil] at hL
      obtain ⟨hp1, hb1, hd1⟩ := drop_head hL
      have hsf := drop_suffix (p := p + 1) hd1 (by omega)
      rw [List.length_drop] at hsf
      obtain ⟨_, hCl⟩ := hsf
      have cb := hr2.byte hp1
      rw [hb1] at cb
      have sb := hr2.byteSome hp1
      have hext : extRd (C.drop (p + 1)) ((tok (l.drop t).length (0 - 4)).toNat / 16) = some ((l.drop t).length, l.drop t) := by
        rw [hd1, tok_nat, show (min (l.drop t).length 15 * 16 + min (0 - 4) 15) / 16 = min (l.drop t).length 15 by omega]
        exact extRd_more _ _
      have hdl : (l.drop t).length = l.length - t := List.length_drop
      obtain ⟨tk, htk⟩ : ∃ tk, tk = tok (l.drop t).length (0 - 4) := ⟨_, rfl⟩
      rw [← htk] at cb hext
      have hk16 : tk.toNat / 16 < 16 := by have := tk.toNat_lt; omega
      have hpI : (p : Int) < C.length := by omega
      have HEXT := Lib.hid hext
      have HCL := Lib.hid hCl
      have HDL := Lib.hid hdl
      clear htk hb1 hL hd1 hext hCl hdl
      go_wp2_with fail
      refine (extended_any (p := p + 1) (k := tk.toNat / 16) (by omega) (by omega) (by rfl) hr2 (by omega) hk16 (by omega)).mono ?_
      rintro e w3 ⟨x, q, ok, rfl, hex, rfl⟩
      rw [HEXT.out] at hex
      obtain ⟨e1, e2, e3⟩ := hex
      subst e3
      have hx1 : (t : Int) + x = l.length := by have := HDL.out; omega
      have hx2 : (q : Int) + x = C.length := by have := HDL.out; have := HCL.out; omega
      have hx3 : ¬ (C.length : Int) - q < x := by omega
      have hb1 : ((t : Int) + x == l.length) = true := by simpa using hx1
      have hb2' : ((q : Int) + x == C.length) = true := by simpa using hx2
      have HX0 := Lib.hid e1
      clear e1 e2 hx1 hx2
      rcases hmt with hm0 | hm0
      · have hm0b : ((m : Int) == 0) = true := by simp [hm0]
        clear hm0
        go_wp2_with fail
        refine (lives8_any _).mono ?_
        rintro e w7 ⟨rfl, hb7⟩
        go_wp2
        go_ret
        exact ⟨rfl, Gr.trans hb2 hb7⟩
      · have h5 : t + 5 ≤ l.length := by omega
        have hx5 : (5 : Int) ≤ x := by have := HDL.out; have := HX0.out; omega
        by_cases hm1 : m = 0
        · have hm0b : ((m : Int) == 0) = true := by simp [hm1]
          clear hm1
          go_wp2_with fail
          refine (lives8_any _).mono ?_
          rintro e w7 ⟨rfl, hb7⟩
          go_wp2
          go_ret
          exact ⟨rfl, Gr.trans hb2 hb7⟩
        · have hm0b : ((m : Int) == 0) = false := by simp [hm1]
          clear hm1
          go_wp2_with fail
          refine (lives8_any _).mono ?_
          rintro e w7 ⟨rfl, hb7⟩
          go_wp2
          go_ret
          exact ⟨rfl, Gr.trans hb2 hb7⟩
    | more _ i cc mm L' h1 h2 h3 h4 h5 h6 h7 h8 =>
      have hsl : ((l.drop t).take (i - t)).length = i - t := by rw [List.length_take, List.length_drop]; omega
      obtain ⟨s, hs⟩ : ∃ s, s = (l.drop t).take (i - t) := ⟨_, rfl⟩
      rw [← hs] at hsl hL
      unfold seqL at hL
      rw [if_neg (by omega), List.cons_append] at hL
      obtain ⟨hp1, hb1, hd1⟩ := drop_head hL
      obtain ⟨Y, hY⟩ : ∃ Y, Y = moreL (mm - 4) ++ L' := ⟨_, rfl⟩
      obtain ⟨X, hX⟩ : ∃ X, X = s ++ (putL (i - cc) 2 ++ Y) := ⟨_, rfl⟩
      have hd2 : C.drop (p + 1) = moreL s.length ++ X := by rw [hd1, hX, hY]; simp
      have hsf := drop_suffix hd2 (by omega)
      obtain ⟨hq1, hCl⟩ := hsf
      have hXl : X.length = s.length + 2 + Y.length := by rw [hX]; simp [putL_length]; omega
      have hq2 : C.drop (p + 1 + (moreL s.length).length + (s.length + 2)) = Y := by
        rw [← List.drop_drop, hq1, hX, ← List.append_assoc, List.drop_left' (by simp [putL_length])]
      have hsf2 := drop_suffix (C := C) (pre := moreL (mm - 4)) (X := L') (p := p + 1 + (moreL s.length).length + (s.length + 2)) (by rw [hq2, hY]) (by omega)
      obtain ⟨hq3, hCl2⟩ := hsf2
      have cb := hr2.byte hp1
      rw [hb1] at cb
      have sb := hr2.byteSome hp1
      have hext : extRd (C.drop (p + 1)) ((tok s.length (mm - 4)).toNat / 16) = some (s.length, X) := by
        rw [hd2, tok_nat, show (min s.length 15 * 16 + min (mm - 4) 15) / 16 = min s.length 15 by omega]
        exact extRd_more _ _
      have hext2 : extRd (C.drop (p + 1 + (moreL s.length).length + (s.length + 2))) ((tok s.length (mm - 4)).toNat % 16) = some (mm - 4, L') := by
        rw [hq2, hY, tok_nat, show (min s.length 15 * 16 + min (mm - 4) 15) % 16 = min (mm - 4) 15 by omega]
        exact extRd_more _ _
      obtain ⟨tk, htk⟩ : ∃ tk, tk = tok s.length (mm - 4) := ⟨_, rfl⟩
      rw [← htk] at cb hext hext2
      have hk16 : tk.toNat / 16 < 16 := by have := tk.toNat_lt; omega
      have hk17 : tk.toNat % 16 < 16 := by omega
      have hpI : (p : Int) < C.length := by omega
      obtain ⟨P2, hP2⟩ : ∃ P2, P2 = p + 1 + (moreL s.length).length + (s.length + 2) := ⟨_, rfl⟩
      rw [← hP2] at hext2 hCl2 hq3
      have HEXT := Lib.hid hext
      have HEXT2 := Lib.hid hext2
      have HN := Lib.hid (And.intro hCl (And.intro hCl2 (And.intro hXl (And.intro hP2 hsl))))
      have H8 := Lib.hid h8
      have HQ3 := Lib.hid hq3
      have hYl : L'.length ≤ Y.length := by rw [hY, List.length_append]; omega
      clear htk hb1 hL hd1 hd2 hext hext2 hq1 hq2 hq3 hX hY hXl hCl hCl2 hP2 hs h8 hsl h7
      have Hs := Lib.hid hYl
      clear hYl
      go_wp2_with fail
      refine (extended_any (p := p + 1) (k := tk.toNat / 16) (by omega) (by omega) (by rfl) hr2 (by omega) hk16 (by omega)).mono ?_
      rintro e w3 ⟨x, q, ok, rfl, hex, rfl⟩
      rw [HEXT.out] at hex
      obtain ⟨e1, e2, e3⟩ := hex
      subst e3
      obtain ⟨n1, n2, n3, n4, n5⟩ := HN.out
      have hYl := Hs.out
      have hx1 : (t : Int) + x = i := by omega
      have hx2 : (q : Int) + x + 2 = P2 := by omega
      have hx3 : ¬ (C.length : Int) - q < x := by omega
      have hx4 : ((q : Int) + x == C.length) = false := beq_eq_false_iff_ne.2 (by omega)
      have hx5 : ¬ (l.length : Int) - 12 < (t : Int) + x := by omega
      have hx6 : ¬ (C.length : Int) - ((q : Int) + x) < 2 := by omega
      have hP2C : P2 ≤ C.length := by omega
      have hqb : (q : Int) ≤ C.length := by omega
      have hxb : (x : Int) ≤ l.length := by omega
      have HX1 := Lib.hid hx1
      have HX2 := Lib.hid hx2
      have HE12 := Lib.hid (And.intro e1 e2)
      clear e1 e2 hx1 hx2 n1 n2 n3 n4 n5 hYl
      go_wp2_with fail
      refine (extended_any (p := P2) (k := tk.toNat % 16) (by have := HX2.out; omega) (by omega) (by rfl) hr2 hP2C hk17 (by omega)).mono ?_
      rintro e w3 ⟨y, q2, ok2, rfl, hex2, rfl⟩
      rw [HEXT2.out] at hex2
      obtain ⟨e1, e2, e3⟩ := hex2
      subst e3
      obtain ⟨n1, n2, n3, n4, n5⟩ := HN.out
      have hq2C : q2 ≤ C.length := by omega
      have hfin : TlRel l C wr (.int .i64 ((i + mm : Nat) : Int)) (.int .i64 (q2 : Int)) (.int .i64 ((m + 1 : Nat) : Int)) wr := by
        refine ⟨i + mm, q2, m + 1, rfl, rfl, rfl, hq2C, ?_, .inr (by omega), by omega, by omega, rfl⟩
        have : q2 = P2 + (moreL (mm - 4)).length := by omega
        rw [this, HQ3.out]; exact H8.out
      have hy4 : (t : Int) + x + y + 4 = ((i + mm : Nat) : Int) := by have := HX1.out; omega
      have hq2p : p < q2 := by omega
      have hyb : (y : Int) ≤ l.length := by omega
      have HF := Lib.hid hfin
      have HY4 := Lib.hid hy4
      clear hfin e1 e2 n1 n2 n3 n4 n5 hy4 hx3 hx4 hx5 hx6
      go_wp2
      have e9 : Value.int .i64 ((t : Int) + x + y + 4) = .int .i64 ((i + mm : Nat) : Int) := by rw [HY4.out]
      first
        | exact ⟨by rw [e9]; exact HF.out, by simp [intOf] <;> omega⟩
        | (refine ⟨?_, by simp [intOf] <;> omega⟩; (repeat apply Exists.intro); exact ⟨by rw [e9]; exact HF.out, rfl⟩)
section
variable {H : Type} {enc : TypeId × Value → H} {W : World} {base : Nat} {v0 v1 v2 v3 v4 : Value} {d0 d1 d2 d3 d4 : DataW H} {p0 p1 p2 p3 p4 : List MemPlace}
theorem lzTail_calls (o0 : Value.okWide Try.prog W .any base 22 v0) (h0 : DataW.Trod enc Try.prog W 0 (fun _ => true) true 22 v0 d0 p0) :
    Calls Try.prog 6 #[v0] W fun e W' => e = .returned (.bool true) ∧ Below W.heap.size W W' := by
  obtain ⟨a, n, c, l, rfl, hn, hc, _, hl⟩ := open_byt Try.underlying22 Try.underlying5 (by kernel_rfl) o0 h0
  exact tail_law a n c l W hn hc hl
end
end Go.Proofs.Ytjecejjlpccgdaa
