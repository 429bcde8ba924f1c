/- Layer 20: what stars match (PathStars). -/
import Derived.Test.YtcanlgcifnjfaaaDoorPt15
set_option maxRecDepth 20000
namespace Go.Proofs.YtcanlgcifnjfaaaDoor
open Go.RowKit Go.Hd Go.ChangeShapes Go.WideShapes Go.ChangeAt

theorem mt_fstar : ∀ s : List UInt8, Hd.mt false [.star] s = true
  | [] => rfl
  | d :: s => by
    show (Hd.mt false [] (d :: s) || (takesF false .star d && starB (takesF false .star) (Hd.mt false []) s)) = true
    rw [show starB (takesF false .star) (Hd.mt false []) s = Hd.mt false [.star] s from rfl, mt_fstar s, show takesF false .star d = true by unfold takesF; rw [if_neg (by simp)]]
    simp
theorem mt_sstar : ∀ s : List UInt8, Hd.mt true [.star] s = !s.contains 47
  | [] => rfl
  | d :: s => by
    show (Hd.mt true [] (d :: s) || (takesF true .star d && starB (takesF true .star) (Hd.mt true []) s)) = _
    rw [show starB (takesF true .star) (Hd.mt true []) s = Hd.mt true [.star] s from rfl, mt_sstar s, show Hd.mt true [] (d :: s) = false from rfl, Bool.false_or]
    by_cases hd : d = 47
    · subst hd; rfl
    · rw [show takesF true .star d = true by unfold takesF; rw [if_neg (fun h => hd h.2)]]
      have e : (d == 47) = false := by simpa using hd
      rw [Bool.true_and, List.contains_cons]
      rw [show ((47 : UInt8) == d) = false by rw [Bool.beq_comm]; exact e]
      rfl
theorem mt_deepstar : ∀ s : List UInt8, Hd.mt true [.deep, .star] s = true
  | [] => rfl
  | d :: s => by
    have ih := mt_deepstar s
    show (Hd.mt true [.star] (d :: s) || ((d == 47 && Hd.mt true [.star] s) || behind (Hd.mt true [.star]) s)) = true
    have ih2 : (Hd.mt true [.star] s || behind (Hd.mt true [.star]) s) = true := ih
    rw [mt_sstar s] at ih2
    rw [mt_sstar (d :: s), mt_sstar s, List.contains_cons]
    by_cases hd : d = 47
    · subst hd
      rw [show ((47 : UInt8) == 47) = true from rfl, Bool.true_and, ih2]; simp
    · rw [show ((47 : UInt8) == d) = false by rw [Bool.beq_comm]; simpa using hd, Bool.false_or]
      rw [Bool.or_eq_true] at ih2 ⊢
      rcases ih2 with h | h
      · exact .inl h
      · rw [h]; simp
theorem mt_starany : ∀ s : List UInt8, Hd.mt false [.star, .any1] s = (s != [])
  | [] => rfl
  | [d] => by
    show (headB (takesF false .any1) (Hd.mt false []) [d] || (takesF false .star d && starB (takesF false .star) (Hd.mt false [.any1]) [])) = _
    rw [show headB (takesF false .any1) (Hd.mt false []) [d] = true by
      show (takesF false .any1 d && true) = true
      unfold takesF; rw [if_neg (by simp)]; rfl]
    rfl
  | d :: c :: s => by
    have ih := mt_starany (c :: s)
    show (headB (takesF false .any1) (Hd.mt false []) (d :: c :: s) || (takesF false .star d && starB (takesF false .star) (Hd.mt false [.any1]) (c :: s))) = _
    rw [show starB (takesF false .star) (Hd.mt false [.any1]) (c :: s) = Hd.mt false [.star, .any1] (c :: s) from rfl, ih]
    rw [show takesF false .star d = true by unfold takesF; rw [if_neg (by simp)]]
    rw [Bool.true_and, show ((c :: s) != []) = true from rfl, Bool.or_true]
    rfl
theorem cutP_many : ∀ s : List UInt8, decide (1 < (cutP s).length) = s.contains 47
  | [] => rfl
  | c :: s => by
    by_cases hc : c = 47
    · subst hc
      rw [cutP_sep, List.contains_cons, show ((47 : UInt8) == 47) = true from rfl, Bool.true_or, decide_eq_true_iff]
      have := cutP_ne s
      cases h : cutP s with
      | nil => exact absurd h this
      | cons => simp
    · obtain ⟨p, ps, h1, h2⟩ := cutP_cons hc s
      have ih := cutP_many s
      rw [h1] at ih
      rw [h2, List.contains_cons, show ((47 : UInt8) == c) = false by rw [Bool.beq_comm]; simpa using hc, Bool.false_or, ← ih]
      rfl
theorem star_fm {T : List Tok} {r s : List UInt8} (hr : r.length ≤ 97) (hne : r ≠ []) (hT : toksF false (r.length + 1) true r = some T) : matchF (102 :: 109 :: 58 :: r) s = (Hd.mt false T s, 0) :=
  match_sty (k := 2) (by decide) (by decide) hr hne hT
theorem star_sh {T : List Tok} {r s : List UInt8} (hr : r.length ≤ 97) (hne : r ≠ []) (hT : toksF true (r.length + 1) true r = some T) : matchF (115 :: 104 :: 58 :: r) s = (Hd.mt true T s, 0) :=
  match_sty (k := 3) (by decide) (by decide) hr hne hT
theorem stars_a (s : List UInt8) : matchF [102, 109, 58, 42] s = (true, 0) := by
  rw [star_fm (r := [42]) (T := [.star]) (by decide) (by decide) (by rfl), mt_fstar]
theorem stars_b (s : List UInt8) : matchF [115, 104, 58, 42, 42, 47, 42] s = (true, 0) := by
  rw [star_sh (r := [42, 42, 47, 42]) (T := [.deep, .star]) (by decide) (by decide) (by rfl), mt_deepstar]
theorem stars_c (s : List UInt8) : matchF [115, 104, 58, 42] s = (!decide (1 < (cutP s).length), 0) := by
  rw [star_sh (r := [42]) (T := [.star]) (by decide) (by decide) (by rfl), mt_sstar, cutP_many]
theorem stars_d (s : List UInt8) : matchF [102, 109, 58, 42, 63] s = (s != [], 0) := by
  rw [star_fm (r := [42, 63]) (T := [.star, .any1]) (by decide) (by decide) (by rfl), mt_starany]
theorem toks_star (p : List UInt8) (hp : plainB p = true) : toksF false ((42 :: p).length + 1) true (42 :: p) = some (.star :: p.map .one) := by
  rw [tok_other (by simp), if_pos rfl, toks_plain _ _ _ (by simp) hp]; rfl
theorem stars_e {t : List UInt8} (s : List UInt8) (ht : t.length ≤ 60) (hp : plainB t = true) : matchF (102 :: 109 :: 58 :: 42 :: t) (s ++ t) = (true, 0) := by
  rw [star_fm (r := 42 :: t) (by simp; omega) (by simp) (toks_star t hp)]
  have := mt_app (sh := false) (T2 := t.map .one) (t := t) (by rw [mt_ones]; simp) [.star] s (mt_fstar s)
  rw [show (Tok.star :: t.map Tok.one) = [Tok.star] ++ t.map Tok.one from rfl, this]
theorem stars_f {t : List UInt8} (s : List UInt8) (ht : t.length ≤ 60) (_hne : t ≠ []) (hp : plainB t = true) : matchF (102 :: 109 :: 58 :: (t ++ [42])) (t ++ s) = (true, 0) := by
  have h1 : toksF false ((t ++ [42]).length + 1) true (t ++ [42]) = some (t.map .one ++ [.star]) :=
    toks_app (q := [42]) (T2 := [.star]) (by rfl) (t.length + 1) true t _ (toks_plain _ _ _ (by omega) hp) _ _ (by omega)
  rw [star_fm (r := t ++ [42]) (by simp; omega) (by simp) h1]
  rw [mt_app (mt_fstar s) (t.map .one) t (by rw [mt_ones]; simp)]
set_option maxHeartbeats 4000000 in
theorem pstars_law {W : World} (ls lt : List UInt8) :
    Calls Tryd.prog 8 #[.string (str ls), .string (str lt)] W fun e W' => e = .returned (.bool true) ∧ Below W.heap.size W W' := by
  have hss := fun w' => short_any ls 100 w' (by decide)
  have hst := fun w' => short_any lt 60 w' (by decide)
  have ls1 : (ls.take 100).length ≤ 100 := by simp; omega
  have lt1 : (lt.take 60).length ≤ 60 := by simp; omega
  generalize ls.take 100 = s at *
  generalize lt.take 60 = t at *
  have hlv := fun w' => lives20_any w'
  have ml := fun (p q : List UInt8) (hp : p.length ≤ 100000) (hq : q.length ≤ 1000000) (r : Bool × Int) (h : matchF p q = r) w' => h ▸ Match_any p q w' hp hq
  have ma := ml [102, 109, 58, 42] s (by decide) (by omega) _ (stars_a s)
  have mb := ml [115, 104, 58, 42, 42, 47, 42] s (by decide) (by omega) _ (stars_b s)
  have mc := ml [115, 104, 58, 42] s (by decide) (by omega) _ (stars_c s)
  have md := ml [102, 109, 58, 42, 63] s (by decide) (by omega) _ (stars_d s)
  have hpc := fun w' => rpieces_any s w' (by omega)
  have hkl : Hid ((cutP s).length ≤ 101) := by have := cutP_len s; show _ ≤ _; omega
  have hpl := fun w' => rplain_any t w' (by omega)
  have u1 : (str s).toList = s := str_toList s
  have u2 : (str t).toList = t := str_toList t
  have v1 : ((str s).toList == []) = (s == []) := by rw [u1]
  have v2 : (str s).toList.isEmpty = (s == []) := by rw [u1]; cases s <;> rfl
  have v3 : ((str t).toList == []) = (t == []) := by rw [u2]
  have v4 : (str t).toList.isEmpty = (t == []) := by rw [u2]; cases t <;> rfl
  have HP : Hid (plainB t = true → (t == []) = false → matchF (102 :: 109 :: 58 :: 42 :: t) (s ++ t) = (true, 0) ∧ matchF (102 :: 109 :: 58 :: (t ++ [42])) (t ++ s) = (true, 0)) := fun h1 h2 =>
    ⟨stars_e s lt1 h1, stars_f s lt1 (by simpa using h2) h1⟩
  rw [show (s != []) = !(s == []) from rfl] at md
  have e1 : Op.stringOp .add ⟨#[102, 109, 58, 42]⟩ (str t) = pure (.string (str (102 :: 109 :: 58 :: 42 :: t))) := str_add [102, 109, 58, 42] t (by simp; omega)
  have e2 : Op.stringOp .add (str s) (str t) = pure (.string (str (s ++ t))) := str_add s t (by omega)
  have e3 : Op.stringOp .add ⟨#[102, 109, 58]⟩ (str t) = pure (.string (str (102 :: 109 :: 58 :: t))) := str_add [102, 109, 58] t (by simp; omega)
  have e4 : Op.stringOp .add (str (102 :: 109 :: 58 :: t)) ⟨#[42]⟩ = pure (.string (str (102 :: 109 :: 58 :: (t ++ [42])))) := str_add (102 :: 109 :: 58 :: t) [42] (by simp; omega)
  have e5 : Op.stringOp .add (str t) (str s) = pure (.string (str (t ++ s))) := str_add t s (by omega)
  have me := fun w' => Match_any (102 :: 109 :: 58 :: 42 :: t) (s ++ t) w' (by simp; omega) (by simp; omega)
  have mf := fun w' => Match_any (102 :: 109 :: 58 :: (t ++ [42])) (t ++ s) w' (by simp; omega) (by simp; omega)
  clear ls1 lt1 ml u1 u2
  generalize matchF (102 :: 109 :: 58 :: 42 :: t) (s ++ t) = r1 at *
  generalize matchF (102 :: 109 :: 58 :: (t ++ [42])) (t ++ s) = r2 at *
  generalize 102 :: 109 :: 58 :: 42 :: t = f1 at *
  generalize 102 :: 109 :: 58 :: (t ++ [42]) = f2 at *
  generalize 102 :: 109 :: 58 :: t = f3 at *
  generalize s ++ t = st at *
  generalize t ++ s = ts at *
  generalize (s == []) = S0 at *
  generalize (t == []) = T0 at *
  generalize plainB t = R at *
  generalize cutP s = ps at *
  rw [show str [102, 109, 58, 42] = ⟨#[102, 109, 58, 42]⟩ from rfl] at ma
  rw [show str [115, 104, 58, 42, 42, 47, 42] = ⟨#[115, 104, 58, 42, 42, 47, 42]⟩ from rfl] at mb
  rw [show str [115, 104, 58, 42] = ⟨#[115, 104, 58, 42]⟩ from rfl] at mc
  rw [show str [102, 109, 58, 42, 63] = ⟨#[102, 109, 58, 42, 63]⟩ from rfl] at md
  go_enter Tryd.func8, Tryd.ntmps8
  go_wp2_with fail
  refine (hss _).mono ?_
  rintro ee w0 ⟨rfl, rfl⟩
  go_wp2_with fail
  refine (hst _).mono ?_
  rintro ee w0 ⟨rfl, rfl⟩
  clear hss hst
  go_wp2_with fail
  refine (ma _).mono ?_
  rintro ee w1 ⟨rfl, hb1⟩
  go_wp2_with fail
  refine (mb _).mono ?_
  rintro ee w2 ⟨rfl, hb2⟩
  have hb3 := Gr.trans hb1 hb2
  clear hb1 hb2
  go_wp2_with fail
  refine (mc _).mono ?_
  rintro ee w3 ⟨rfl, hb4⟩
  have hb5 := Gr.trans hb3 hb4
  clear hb3 hb4
  go_wp2_with fail
  refine (md _).mono ?_
  rintro ee w4 ⟨rfl, hb6⟩
  have hb7 := Gr.trans hb5 hb6
  clear hb5 hb6 ma mb mc md
  go_wp2_with fail
  refine (hpc _).mono ?_
  rintro ee w5 ⟨⟨u, rfl, hk⟩, hb8⟩
  obtain ⟨ak, ck, rfl, _⟩ := owns_rowN hk (by decide)
  have hb9 := Gr.trans hb7 hb8
  clear hk hb7 hb8 hpc
  have i1 : decide ((1 : Int) < (ps.length : Int)) = decide (1 < ps.length) := by
    by_cases h : 1 < ps.length
    · rw [decide_eq_true h, decide_eq_true (by omega)]
    · rw [decide_eq_false h, decide_eq_false (by omega)]
  generalize decide (1 < ps.length) = D at *
  cases D
  all_goals
    cases S0
    all_goals
      go_wp2_with fail
      refine (hpl _).mono ?_
      rintro ee w6 ⟨rfl, rfl⟩
      cases R
      · go_wp2_with fail
        refine (hlv _).mono ?_
        rintro ee w7 ⟨rfl, hb10⟩
        go_wp2
        go_ret
        exact ⟨rfl, Gr.trans hb9 hb10⟩
      · cases T0
        · obtain ⟨h1, h2⟩ := HP.out rfl rfl
          subst h1 h2
          go_wp2_with fail
          refine (me _).mono ?_
          rintro ee w8 ⟨rfl, hb11⟩
          have hb12 := Gr.trans hb9 hb11
          go_wp2_with fail
          refine (mf _).mono ?_
          rintro ee w9 ⟨rfl, hb13⟩
          have hb14 := Gr.trans hb12 hb13
          go_wp2_with fail
          refine (hlv _).mono ?_
          rintro ee w7 ⟨rfl, hb10⟩
          go_wp2
          go_ret
          exact ⟨rfl, Gr.trans hb14 hb10⟩
        · go_wp2_with fail
          refine (hlv _).mono ?_
          rintro ee w7 ⟨rfl, hb10⟩
          go_wp2
          go_ret
          exact ⟨rfl, Gr.trans hb9 hb10⟩
theorem pathStars_calls {H : Type} {enc : TypeId × Value → H} {W : World} {base : Nat} {v0 v1 : Value} {d0 d1 : DataW H} {p0 p1 : List MemPlace}
    (o0 : Value.okWide Tryd.prog W .any base 9 v0) (h0 : DataW.Trod enc Tryd.prog W 0 (fun _ => true) true 9 v0 d0 p0)
    (o1 : Value.okWide Tryd.prog W .any base 9 v1) (h1 : DataW.Trod enc Tryd.prog W 0 (fun _ => true) true 9 v1 d1 p1) :
    Calls Tryd.prog 8 #[v0, v1] W fun e W' => e = .returned (.bool true) ∧ Below W.heap.size W W' := by
  obtain ⟨la, rfl, _⟩ := open_text Tryd.underlying9 o0 h0
  obtain ⟨lb, rfl, _⟩ := open_text Tryd.underlying9 o1 h1
  exact pstars_law la lb
end Go.Proofs.YtcanlgcifnjfaaaDoor
