/- Layer 20: plain patterns (PathPlain). -/
import Derived.Test.YtcanlgcifnjfaaaDoorPt14
set_option maxRecDepth 20000
namespace Go.Hd
def plainC (c : UInt8) : Bool := c != 42 && c != 63 && c != 91
def plainB (p : List UInt8) : Bool := p.all plainC
end Go.Hd
namespace Go.Proofs.YtcanlgcifnjfaaaDoor
open Go.RowKit Go.Hd Go.ChangeShapes Go.WideShapes Go.ChangeAt

theorem toks_plain {sh : Bool} : ∀ (n : Nat) (sl : Bool) (p : List UInt8), p.length < n → plainB p = true → toksF sh n sl p = some (p.map .one)
  | 0, _, _, h, _ => by omega
  | n + 1, sl, [], _, _ => tok_nil
  | n + 1, sl, c :: p, h, hp => by
    have hp2 : plainC c = true ∧ plainB p = true := by simpa [plainB, Bool.and_eq_true] using hp
    have hc : c ≠ 42 ∧ c ≠ 63 ∧ c ≠ 91 := by have := hp2.1; simp [plainC] at this; exact ⟨this.1.1, this.1.2, this.2⟩
    rw [tok_other (by
      rintro ⟨_, _, h3⟩
      have := (begins_len h3).2 0 (by decide)
      simp at this
      exact hc.1 this), if_neg hc.1, if_neg hc.2.1, if_neg hc.2.2, toks_plain n _ p (by simp at h; omega) hp2.2]
    rfl
theorem mt_ones {sh : Bool} : ∀ (p s : List UInt8), Hd.mt sh (p.map .one) s = (s == p)
  | [], [] => rfl
  | [], _ :: _ => rfl
  | c :: p, [] => rfl
  | c :: p, d :: s => by
    show headB (takesF sh (.one c)) (Hd.mt sh (p.map .one)) (d :: s) = _
    show (takesF sh (.one c) d && Hd.mt sh (p.map .one) s) = _
    rw [takes_one, mt_ones p s, show ((d :: s) == (c :: p)) = (d == c && s == p) from rfl]
    rw [Bool.beq_comm (a := c)]
theorem styF_sty {k : Nat} (hk : k ≤ 3) (p : List UInt8) : styF (styB k ++ p) = (k, p) := by
  rcases (by omega : k = 0 ∨ k = 1 ∨ k = 2 ∨ k = 3) with rfl | rfl | rfl | rfl <;>
    (unfold styF styB beginsB; simp)
theorem styB_len {k : Nat} (hk : k ≤ 3) : (styB k).length = 3 := by
  rcases (by omega : k = 0 ∨ k = 1 ∨ k = 2 ∨ k = 3) with rfl | rfl | rfl | rfl <;> rfl
theorem match_sty {k : Nat} (hk : k ≤ 3) (h2 : 2 ≤ k) {p s : List UInt8} {T : List Tok} (hp : p.length ≤ 97) (hne : p ≠ []) (hT : toksF (k == 3) (p.length + 1) true p = some T) : matchF (styB k ++ p) s = (Hd.mt (k == 3) T s, (0 : Int)) := by
  refine match_mt (rest := p) ?_ h2
  unfold readF
  rw [styF_sty hk, if_neg (by rw [List.length_append, styB_len hk]; omega), if_neg hne, if_neg (by simp only; omega)]
  simp only
  rw [hT]
theorem match_sty0 {p s : List UInt8} (hp : p.length ≤ 97) (hne : p ≠ []) : matchF (styB 0 ++ p) s = (s == p, (0 : Int)) := by
  unfold matchF readF
  rw [styF_sty (by decide), if_neg (by rw [List.length_append, styB_len (by decide)]; omega), if_neg hne, if_pos (by simp)]
  rfl
theorem match_sty1 {p s : List UInt8} (hp : p.length ≤ 97) (hne : p ≠ []) : matchF (styB 1 ++ p) s = (s == p || beginsB s (p ++ [47]), (0 : Int)) := by
  unfold matchF readF
  rw [styF_sty (by decide), if_neg (by rw [List.length_append, styB_len (by decide)]; omega), if_neg hne, if_pos (by simp)]
  rfl
set_option maxHeartbeats 2000000 in
theorem rplain_any (s : List UInt8) (w : World) (hs : s.length ≤ 1000000) :
    Calls Tryd.prog 27 #[.string (str s)] w fun e w' => e = .returned (.bool (plainB s)) ∧ w = w' := by
  have hz : (str s).size = s.length := str_size s
  have HS := Lib.hid hs
  have HP : Hid (∀ R, plainB s = R → R = plainB s) := fun _ h => h.symm
  clear hs
  go_enter Tryd.func27, Tryd.ntmps27
  go_wp2
  go_loopw [3] (fun i wr => ∃ j : Nat, j ≤ s.length ∧ i = .int .i64 j ∧ (s.take j).all plainC = true ∧ Hid (wr = w)) (fun i _ => s.length - (intOf i).toNat)
  case atStart => exact ⟨0, Nat.zero_le _, rfl, rfl, Lib.hid rfl⟩
  case round =>
    obtain ⟨j, hj, rfl, hall, hwr⟩ := hrel
    have hwr := hwr.out
    subst hwr
    have j0 : (0 : Int) ≤ (j : Int) := by omega
    have jb : IntKind.i64.wrap ((j : Int) + 1) = (j : Int) + 1 := IntWalk.i64_in _ (by have := HS.out; omega)
    by_cases hlt : j < s.length
    · have j1 : (j : Int) < (s.length : Int) := by omega
      have hsz : j < (str s).size := by rw [hz]; exact hlt
      have hat := str_at s j hsz hlt
      have hA : Hid (plainC (s[j]'hlt) = true → (s.take (j + 1)).all plainC = true) := fun h => by
        rw [List.take_succ_eq_append_getElem hlt, List.all_append, hall]; simpa using h
      have hN : Hid (plainC (s[j]'hlt) = false → plainB s = false) := fun h => by
        rcases Bool.eq_false_or_eq_true (plainB s) with h2 | h2
        · rw [List.all_eq_true.1 h2 _ (List.getElem_mem hlt)] at h; cases h
        · exact h2
      have tt : ∀ x : UInt8, ((((str s)[j]'hsz).toNat : Int) == (x.toNat : Int)) = ((s[j]'hlt) == x) := fun x => byte_eq hsz hlt x
      have t42 := tt 42
      have t63 := tt 63
      have t91 := tt 91
      have hcc : Hid (plainC (s[j]'hlt) = (!((s[j]'hlt) == 42) && !((s[j]'hlt) == 63) && !((s[j]'hlt) == 91))) := rfl
      clear tt hall hat
      rw [show ((42 : UInt8).toNat : Int) = 42 from rfl] at t42
      rw [show ((63 : UInt8).toNat : Int) = 63 from rfl] at t63
      rw [show ((91 : UInt8).toNat : Int) = 91 from rfl] at t91
      generalize ((s[j]'hlt) == 42) = b1 at *
      generalize ((s[j]'hlt) == 63) = b2 at *
      generalize ((s[j]'hlt) == 91) = b3 at *
      cases b1
      · cases b2
        · cases b3
          · have hA2 := Lib.hid (hA.out (by rw [hcc.out]; rfl))
            clear hA hN hcc
            go_wp2
            first
              | exact ⟨⟨j + 1, by omega, (by first | rfl | go_num | (congr 1; omega)), hA2.out, (by first | exact Lib.hid rfl | exact Lib.hid trivial)⟩, by simp [intOf] <;> omega⟩
              | (refine ⟨?_, by simp [intOf] <;> omega⟩; (repeat apply Exists.intro); exact ⟨⟨j + 1, by omega, (by first | rfl | go_num | (congr 1; omega)), hA2.out, (by first | exact Lib.hid rfl | exact Lib.hid trivial)⟩, rfl⟩)
          · have hR := Lib.hid (hN.out (by rw [hcc.out]; rfl))
            clear hA hN hcc
            go_wp2
            go_ret
            exact ⟨by rw [hR.out] <;> rfl, rfl⟩
        · have hR := Lib.hid (hN.out (by rw [hcc.out]; rfl))
          clear hA hN hcc
          go_wp2
          go_ret
          exact ⟨by rw [hR.out] <;> rfl, rfl⟩
      · have hR := Lib.hid (hN.out (by rw [hcc.out]; rfl))
        clear hA hN hcc
        go_wp2
        go_ret
        exact ⟨by rw [hR.out] <;> rfl, rfl⟩
    · obtain rfl : j = s.length := by omega
      have hR : Hid (plainB s = true) := by show _ = _; rw [List.take_length] at hall; exact hall
      clear hall
      go_wp2
      go_ret
      exact ⟨by rw [hR.out] <;> rfl, rfl⟩
set_option maxHeartbeats 2000000 in
theorem pplain_law {W : World} (lp ls : List UInt8) :
    Calls Tryd.prog 7 #[.string (str lp), .string (str ls)] W fun e W' => e = .returned (.bool true) ∧ Below W.heap.size W W' := by
  have hsp := fun w' => short_any lp 80 w' (by decide)
  have hss := fun w' => short_any ls 200 w' (by decide)
  have lp1 : (lp.take 80).length ≤ 80 := by simp; omega
  have ls1 : (ls.take 200).length ≤ 200 := by simp; omega
  generalize lp.take 80 = p at *
  generalize ls.take 200 = s at *
  have hlv := fun w' => lives20_any w'
  have t1 : (str p).toList = p := str_toList p
  have t2 : (str s).toList = s := str_toList s
  by_cases hne : p = []
  · have t3 : (str p).toList.isEmpty = true := by rw [t1, hne]; rfl
    have t4 : (str p).toList = [] := by rw [t1, hne]
    clear t1 t2 lp1 ls1
    clear hne
    go_enter Tryd.func7, Tryd.ntmps7
    go_wp2_with fail
    refine (hsp _).mono ?_
    rintro ee w0 ⟨rfl, rfl⟩
    go_wp2_with fail
    refine (hss _).mono ?_
    rintro ee w0 ⟨rfl, rfl⟩
    go_wp2_with fail
    refine (hlv _).mono ?_
    rintro ee w5 ⟨rfl, hb5⟩
    go_wp2
    go_ret
    exact ⟨rfl, hb5⟩
  · have t3 : (str p).toList.isEmpty = false := by rw [t1]; simpa using hne
    have t4 : ¬ (str p).toList = [] := by rw [t1]; exact hne
    have hpl := fun w' => rplain_any p w' (by omega)
    have HP : Hid (plainB p = true → (∀ k, k ≤ 3 → 2 ≤ k → matchF (styB k ++ p) s = (s == p, 0)) ∧ matchF (styB 0 ++ p) s = (s == p, 0) ∧ matchF (styB 1 ++ p) s = (s == p || beginsB s (p ++ [47]), 0)) := fun h =>
      ⟨fun k hk h2 => by rw [match_sty hk h2 (by omega) hne (toks_plain _ _ _ (by omega) h), mt_ones], match_sty0 (by omega) hne, match_sty1 (by omega) hne⟩
    clear hne
    generalize plainB p = R at *
    cases R
    · clear HP t1 t2 lp1 ls1
      go_enter Tryd.func7, Tryd.ntmps7
      go_wp2_with fail
      refine (hsp _).mono ?_
      rintro ee w0 ⟨rfl, rfl⟩
      go_wp2_with fail
      refine (hss _).mono ?_
      rintro ee w0 ⟨rfl, rfl⟩
      go_wp2_with fail
      refine (hpl _).mono ?_
      rintro ee w0 ⟨rfl, rfl⟩
      go_wp2_with fail
      refine (hlv _).mono ?_
      rintro ee w5 ⟨rfl, hb5⟩
      go_wp2
      go_ret
      exact ⟨rfl, hb5⟩
    · obtain ⟨h23, h0, h1⟩ := HP.out rfl
      have h2 := h23 2 (by decide) (by decide)
      have h3 := h23 3 (by decide) (by decide)
      clear HP h23
      have e0 : Op.stringOp .add ⟨#[112, 102, 58]⟩ (str p) = pure (.string (str (styB 0 ++ p))) := str_add (styB 0) p (by rw [styB_len (by decide)]; omega)
      have e1 : Op.stringOp .add ⟨#[112, 112, 58]⟩ (str p) = pure (.string (str (styB 1 ++ p))) := str_add (styB 1) p (by rw [styB_len (by decide)]; omega)
      have e2 : Op.stringOp .add ⟨#[102, 109, 58]⟩ (str p) = pure (.string (str (styB 2 ++ p))) := str_add (styB 2) p (by rw [styB_len (by decide)]; omega)
      have e3 : Op.stringOp .add ⟨#[115, 104, 58]⟩ (str p) = pure (.string (str (styB 3 ++ p))) := str_add (styB 3) p (by rw [styB_len (by decide)]; omega)
      have e4 := str_slash p (by omega)
      have ml := fun k (hk : k ≤ 3) w' => Match_any (styB k ++ p) s w' (by rw [List.length_append, styB_len hk]; omega) (by omega)
      have m0 := ml 0 (by decide)
      have m1 := ml 1 (by decide)
      have m2 := ml 2 (by decide)
      have m3 := ml 3 (by decide)
      rw [h0] at m0; rw [h1] at m1; rw [h2] at m2; rw [h3] at m3
      have hbg := fun w' => rbegins_any s (p ++ [47]) w'
      have q1 : ((str p).toList == (str s).toList) = (s == p) := by rw [t1, t2, Bool.beq_comm]
      clear ml h0 h1 h2 h3 lp1 ls1 t1 t2
      generalize styB 0 ++ p = f0 at *
      generalize styB 1 ++ p = f1 at *
      generalize styB 2 ++ p = f2 at *
      generalize styB 3 ++ p = f3 at *
      generalize beginsB s (p ++ [47]) = B at *
      generalize p ++ [47] = p47 at *
      generalize (s == p) = a at *
      go_enter Tryd.func7, Tryd.ntmps7
      go_wp2_with fail
      refine (hsp _).mono ?_
      rintro ee w0 ⟨rfl, rfl⟩
      go_wp2_with fail
      refine (hss _).mono ?_
      rintro ee w0 ⟨rfl, rfl⟩
      go_wp2_with fail
      refine (hpl _).mono ?_
      rintro ee w0 ⟨rfl, rfl⟩
      clear hsp hss hpl
      go_wp2_with fail
      refine (m0 _).mono ?_
      rintro ee w1 ⟨rfl, hb1⟩
      go_wp2_with fail
      refine (m1 _).mono ?_
      rintro ee w2 ⟨rfl, hb2⟩
      have hb3 := Gr.trans hb1 hb2
      clear hb1 hb2
      go_wp2_with fail
      refine (m2 _).mono ?_
      rintro ee w3 ⟨rfl, hb4⟩
      have hb5 := Gr.trans hb3 hb4
      clear hb3 hb4
      go_wp2_with fail
      refine (m3 _).mono ?_
      rintro ee w4 ⟨rfl, hb6⟩
      have hb7 := Gr.trans hb5 hb6
      clear hb5 hb6 m0 m1 m2 m3
      cases a
      · go_wp2_with fail
        refine (hbg _).mono ?_
        rintro ee w5 ⟨rfl, hb8⟩
        cases B <;>
        (go_wp2_with fail
         refine (hlv _).mono ?_
         rintro ee w6 ⟨rfl, hb9⟩
         go_wp2
         go_ret
         first | exact ⟨rfl, Gr.trans hb7 hb9⟩ | exact ⟨rfl, Gr.trans (hb8 ▸ hb7) hb9⟩ | exact ⟨rfl, Gr.trans (Gr.trans hb7 hb8) hb9⟩)
      · cases B <;>
        (go_wp2_with fail
         refine (hlv _).mono ?_
         rintro ee w6 ⟨rfl, hb9⟩
         go_wp2
         go_ret
         exact ⟨rfl, Gr.trans hb7 hb9⟩)
theorem pathPlain_calls {H : Type} {enc : TypeId × Value → H} {W : World} {base : Nat} {v0 v1 : Value} {d0 d1 : DataW H} {p0 p1 : List MemPlace}
    (o0 : Value.okWide Tryd.prog W .any base 9 v0) (h0 : DataW.Trod enc Tryd.prog W 0 (fun _ => true) true 9 v0 d0 p0)
    (o1 : Value.okWide Tryd.prog W .any base 9 v1) (h1 : DataW.Trod enc Tryd.prog W 0 (fun _ => true) true 9 v1 d1 p1) :
    Calls Tryd.prog 7 #[v0, v1] W fun e W' => e = .returned (.bool true) ∧ Below W.heap.size W W' := by
  obtain ⟨la, rfl, _⟩ := open_text Tryd.underlying9 o0 h0
  obtain ⟨lb, rfl, _⟩ := open_text Tryd.underlying9 o1 h1
  exact pplain_law la lb
end Go.Proofs.YtcanlgcifnjfaaaDoor
