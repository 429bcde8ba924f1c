/- Layer 20: PathJoins. -/
import Derived.Test.YtcanlgcifnjfaaaDoorPt13
import Derived.Test.YtcanlgcifnjfaaaDoorP12
set_option maxRecDepth 20000
namespace Go.Proofs.YtcanlgcifnjfaaaDoor
open Go.RowKit Go.Hd Go.ChangeShapes Go.WideShapes Go.ChangeAt

theorem styF_fm (p : List UInt8) : styF (102 :: 109 :: 58 :: p) = (2, p) := by
  unfold styF styB beginsB
  simp
theorem readF_fm {p : List UInt8} (hp : p.length ≤ 97) (hne : p ≠ []) : readF (102 :: 109 :: 58 :: p) = match toksF false (p.length + 1) true p with | none => .error 4 | some T => .ok (2, p, T) := by
  unfold readF
  rw [styF_fm, if_neg (by simp; omega), if_neg hne, if_neg (show ¬ (2 < 2) by decide)]
  rfl
theorem readF_fm0 : readF [102, 109, 58] = .error 4 := by
  unfold readF
  rw [styF_fm, if_neg (by simp), if_pos rfl]
theorem match_fm {p s : List UInt8} (hp : p.length ≤ 97) : matchF (102 :: 109 :: 58 :: p) s = if p = [] then (false, (4 : Int)) else match toksF false (p.length + 1) true p with | none => (false, (4 : Int)) | some T => (Hd.mt false T s, (0 : Int)) := by
  by_cases hne : p = []
  · subst hne
    rw [if_pos rfl]
    unfold matchF
    rw [readF_fm0]
  · rw [if_neg hne]
    have h := readF_fm hp hne
    cases hT : toksF false (p.length + 1) true p with
    | none =>
      rw [hT] at h
      unfold matchF
      rw [h]
    | some T =>
      rw [hT] at h
      rw [match_mt h (by decide)]
      rfl
theorem joins_law {p q s t : List UInt8} (hp : p.length ≤ 40) (hq : q.length ≤ 40) (ha : matchF (102 :: 109 :: 58 :: p) s = (true, 0)) (hb : matchF (102 :: 109 :: 58 :: q) t = (true, 0)) : matchF (102 :: 109 :: 58 :: (p ++ q)) (s ++ t) = (true, 0) := by
  rw [match_fm (by omega)] at ha hb
  rw [match_fm (by simp; omega)]
  split at ha
  · cases ha
  rename_i hp0
  split at hb
  · cases hb
  rename_i hq0
  rw [if_neg (by simp [hp0])]
  split at ha
  · cases ha
  rename_i T1 h1
  split at hb
  · cases hb
  rename_i T2 h2
  rw [toks_app h2 _ _ _ _ h1 _ _ (by omega)]
  injection ha with ha _
  injection hb with hb _
  simp only
  rw [mt_app hb _ _ ha]
set_option maxHeartbeats 2000000 in
theorem pjoins_law {W : World} (lp lq ls lt : List UInt8) :
    Calls Tryd.prog 6 #[.string (str lp), .string (str lq), .string (str ls), .string (str lt)] W fun e W' => e = .returned (.bool true) ∧ Below W.heap.size W W' := by
  have hsp := fun w' => short_any lp 40 w' (by decide)
  have hsq := fun w' => short_any lq 40 w' (by decide)
  have hss := fun w' => short_any ls 60 w' (by decide)
  have hst := fun w' => short_any lt 60 w' (by decide)
  have lp1 : (lp.take 40).length ≤ 40 := by simp; omega
  have lq1 : (lq.take 40).length ≤ 40 := by simp; omega
  have ls1 : (ls.take 60).length ≤ 60 := by simp; omega
  have lt1 : (lt.take 60).length ≤ 60 := by simp; omega
  generalize lp.take 40 = p at *
  generalize lq.take 40 = q at *
  generalize ls.take 60 = s at *
  generalize lt.take 60 = t at *
  have e1 : Op.stringOp .add ⟨#[102, 109, 58]⟩ (str p) = pure (.string (str (102 :: 109 :: 58 :: p))) := str_add [102, 109, 58] p (by simp; omega)
  have e2 : Op.stringOp .add ⟨#[102, 109, 58]⟩ (str q) = pure (.string (str (102 :: 109 :: 58 :: q))) := str_add [102, 109, 58] q (by simp; omega)
  have e3 : Op.stringOp .add (str (102 :: 109 :: 58 :: p)) (str q) = pure (.string (str (102 :: 109 :: 58 :: (p ++ q)))) := str_add (102 :: 109 :: 58 :: p) q (by simp; omega)
  have e4 : Op.stringOp .add (str s) (str t) = pure (.string (str (s ++ t))) := str_add s t (by omega)
  have m1 := fun w' => Match_any (102 :: 109 :: 58 :: p) s w' (by simp; omega) (by omega)
  have m2 := fun w' => Match_any (102 :: 109 :: 58 :: q) t w' (by simp; omega) (by omega)
  have m3 := fun w' => Match_any (102 :: 109 :: 58 :: (p ++ q)) (s ++ t) w' (by simp; omega) (by simp; omega)
  have hJ : Hid (matchF (102 :: 109 :: 58 :: p) s = (true, 0) → matchF (102 :: 109 :: 58 :: q) t = (true, 0) → matchF (102 :: 109 :: 58 :: (p ++ q)) (s ++ t) = (true, 0)) := joins_law lp1 lq1
  have hlv := fun w' => lives20_any w'
  clear lp1 lq1 ls1 lt1
  generalize 102 :: 109 :: 58 :: (p ++ q) = fpq at *
  generalize 102 :: 109 :: 58 :: p = fp at *
  generalize 102 :: 109 :: 58 :: q = fq at *
  generalize s ++ t = st at *
  generalize matchF fp s = r1 at *
  generalize matchF fq t = r2 at *
  generalize matchF fpq st = r3 at *
  obtain ⟨a, e⟩ := r1
  obtain ⟨b, f⟩ := r2
  go_enter Tryd.func6, Tryd.ntmps6
  go_wp2_with fail
  refine (hsp _).mono ?_
  rintro ee w0 ⟨rfl, rfl⟩
  go_wp2_with fail
  refine (hsq _).mono ?_
  rintro ee w0 ⟨rfl, rfl⟩
  go_wp2_with fail
  refine (hss _).mono ?_
  rintro ee w0 ⟨rfl, rfl⟩
  go_wp2_with fail
  refine (hst _).mono ?_
  rintro ee w0 ⟨rfl, rfl⟩
  clear hsp hsq hss hst
  go_wp2_with fail
  refine (m1 _).mono ?_
  rintro ee w1 ⟨rfl, hb1⟩
  go_wp2_with fail
  refine (m2 _).mono ?_
  rintro ee w2 ⟨rfl, hb2⟩
  have hb3 := Gr.trans hb1 hb2
  clear m1 m2 hb1 hb2
  by_cases he : e = 0
  · subst he
    by_cases hf : f = 0
    · subst hf
      cases a
      · clear hJ m3
        go_wp2_with fail
        refine (hlv _).mono ?_
        rintro ee w5 ⟨rfl, hb5⟩
        go_wp2
        go_ret
        exact ⟨rfl, Gr.trans hb3 hb5⟩
      · cases b
        · clear hJ m3
          go_wp2_with fail
          refine (hlv _).mono ?_
          rintro ee w5 ⟨rfl, hb5⟩
          go_wp2
          go_ret
          exact ⟨rfl, Gr.trans hb3 hb5⟩
        · have hr := hJ.out rfl rfl
          subst hr
          clear hJ
          go_wp2_with fail
          refine (m3 _).mono ?_
          rintro ee w4 ⟨rfl, hb4⟩
          have hb5 := Gr.trans hb3 hb4
          go_wp2_with fail
          refine (hlv _).mono ?_
          rintro ee w5 ⟨rfl, hb6⟩
          go_wp2
          go_ret
          exact ⟨rfl, Gr.trans hb5 hb6⟩
    · have f1 : (f == 0) = false := by simpa using hf
      have f2 : (f != 0) = true := by simpa using hf
      clear hJ m3
      go_wp2_with fail
      refine (hlv _).mono ?_
      rintro ee w5 ⟨rfl, hb5⟩
      go_wp2
      go_ret
      exact ⟨rfl, Gr.trans hb3 hb5⟩
  · have f1 : (e == 0) = false := by simpa using he
    have f2 : (e != 0) = true := by simpa using he
    clear hJ m3
    go_wp2_with fail
    refine (hlv _).mono ?_
    rintro ee w5 ⟨rfl, hb5⟩
    go_wp2
    go_ret
    exact ⟨rfl, Gr.trans hb3 hb5⟩
theorem pathJoins_calls {H : Type} {enc : TypeId × Value → H} {W : World} {base : Nat} {v0 v1 v2 v3 : Value} {d0 d1 d2 d3 : DataW H} {p0 p1 p2 p3 : List MemPlace}
    (o0 : Value.okWide Tryd.prog W .any base 9 v0) (h0 : DataW.Trod enc Tryd.prog W 0 (fun _ => true) true 9 v0 d0 p0)
    (o1 : Value.okWide Tryd.prog W .any base 9 v1) (h1 : DataW.Trod enc Tryd.prog W 0 (fun _ => true) true 9 v1 d1 p1)
    (o2 : Value.okWide Tryd.prog W .any base 9 v2) (h2 : DataW.Trod enc Tryd.prog W 0 (fun _ => true) true 9 v2 d2 p2)
    (o3 : Value.okWide Tryd.prog W .any base 9 v3) (h3 : DataW.Trod enc Tryd.prog W 0 (fun _ => true) true 9 v3 d3 p3) :
    Calls Tryd.prog 6 #[v0, v1, v2, v3] W fun e W' => e = .returned (.bool true) ∧ Below W.heap.size W W' := by
  obtain ⟨la, rfl, _⟩ := open_text Tryd.underlying9 o0 h0
  obtain ⟨lb, rfl, _⟩ := open_text Tryd.underlying9 o1 h1
  obtain ⟨lc, rfl, _⟩ := open_text Tryd.underlying9 o2 h2
  obtain ⟨ld, rfl, _⟩ := open_text Tryd.underlying9 o3 h3
  exact pjoins_law la lb lc ld
end Go.Proofs.YtcanlgcifnjfaaaDoor
