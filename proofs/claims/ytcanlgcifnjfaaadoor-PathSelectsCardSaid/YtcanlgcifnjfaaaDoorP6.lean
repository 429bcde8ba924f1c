/- Layer 20: PathOrders. -/
import Derived.Test.YtcanlgcifnjfaaaDoorP5
set_option maxRecDepth 20000
namespace Go.Proofs.YtcanlgcifnjfaaaDoor
open Go.RowKit Go.Hd Go.ChangeShapes Go.WideShapes Go.ChangeAt

set_option maxHeartbeats 4000000 in
theorem porders_law {W : World} (la lb lc : List UInt8) :
    Calls Tryd.prog 4 #[.string (str la), .string (str lb), .string (str lc)] W fun e W' => e = .returned (.bool true) ∧ Below W.heap.size W W' := by
  have hsa := fun w' => short_any la 100 w' (by decide)
  have hsb := fun w' => short_any lb 100 w' (by decide)
  have hsc := fun w' => short_any lc 100 w' (by decide)
  have hal : (la.take 100).length ≤ 1000000 := by simp; omega
  have hbl : (lb.take 100).length ≤ 1000000 := by simp; omega
  have hcl : (lc.take 100).length ≤ 1000000 := by simp; omega
  generalize la.take 100 = a at *
  generalize lb.take 100 = b at *
  generalize lc.take 100 = c at *
  have hab := fun w' => less_any a b w' hal hbl
  have hbc := fun w' => less_any b c w' hbl hcl
  have hac := fun w' => less_any a c w' hal hcl
  have haa := fun w' => less_any a a w' hal hal
  have hba := fun w' => less_any b a w' hbl hal
  have hiab := fun w' => inside_any a b w' hal hbl
  have hiac := fun w' => inside_any a c w' hal hcl
  have hckc := fun w' => check_any c w' hcl
  have hlv := fun w' => lives20_any w'
  have hO := Lib.hid (order_law a b c)
  have HE : Hid (((str a).toList = (str b).toList) ↔ a = b) := by show _ ↔ _; rw [str_toList, str_toList]
  rw [(order_law a b c).1] at haa
  clear hal hbl hcl
  go_enter Tryd.func4, Tryd.ntmps4
  go_wp2_with fail
  refine (hsa _).mono ?_
  rintro ee w0 ⟨rfl, rfl⟩
  go_wp2_with fail
  refine (hsb _).mono ?_
  rintro ee w0 ⟨rfl, rfl⟩
  go_wp2_with fail
  refine (hsc _).mono ?_
  rintro ee w0 ⟨rfl, rfl⟩
  clear hsa hsb hsc
  go_wp2_with fail
  refine (hab _).mono ?_
  rintro ee w1 ⟨rfl, n1, rfl⟩
  go_wp2_with fail
  refine (hbc _).mono ?_
  rintro ee w2 ⟨rfl, n2, rfl⟩
  go_wp2_with fail
  refine (hac _).mono ?_
  rintro ee w3 ⟨rfl, n3, rfl⟩
  go_upto_region 3 with (fail)
  clear hab hbc hac
  go_cut [60] (fun u wx => u = .bool false ∧ Below W.heap.size W wx)
  case first =>
    obtain ⟨_, o1, o2, o3, _, _⟩ := hO.out
    clear hiab hiac hckc hlv hO
    generalize lessF b a = xx at *
    generalize lessF a b = x at *
    generalize lessF b c = y at *
    generalize lessF a c = z at *
    by_cases hab : a = b
    · have t1 : ((str a).toList == (str b).toList) = true := by rw [beq_iff_eq]; exact HE.out.2 hab
      clear hab HE o2
      cases x
      · clear o1 o3
        go_wp2_with fail
        refine (haa _).mono ?_
        rintro ee w5 ⟨rfl, n5, rfl⟩
        go_wp2
        go_meet
        exact ⟨rfl, by first | exact Below.drewN (Below.refl _ _) _ | exact Below.drewN (Below.drewN (Below.refl _ _) _) _ | exact Below.drewN (Below.drewN (Below.drewN (Below.refl _ _) _) _) _⟩
      · obtain rfl := o1 (by first | rfl | trivial)
        clear o1
        go_wp2_with fail
        refine (haa _).mono ?_
        rintro ee w5 ⟨rfl, n5, rfl⟩
        go_wp2_with fail
        refine (hba _).mono ?_
        rintro ee w6 ⟨rfl, n6, rfl⟩
        cases y
        · go_wp2
          go_meet
          exact ⟨rfl, by first | exact Below.drewN (Below.refl _ _) _ | exact Below.drewN (Below.drewN (Below.refl _ _) _) _ | exact Below.drewN (Below.drewN (Below.drewN (Below.refl _ _) _) _) _⟩
        · obtain rfl := o3 (by first | rfl | trivial) (by first | rfl | trivial)
          go_wp2
          go_meet
          exact ⟨rfl, by first | exact Below.drewN (Below.refl _ _) _ | exact Below.drewN (Below.drewN (Below.refl _ _) _) _ | exact Below.drewN (Below.drewN (Below.drewN (Below.refl _ _) _) _) _⟩
    · have t1 : ((str a).toList == (str b).toList) = false := by rw [beq_eq_false_iff_ne]; exact fun e => hab (HE.out.1 e)
      clear HE
      cases x
      · obtain rfl := o2 hab (by first | rfl | trivial)
        clear o1 o2 o3 hab
        go_wp2_with fail
        refine (haa _).mono ?_
        rintro ee w5 ⟨rfl, n5, rfl⟩
        go_wp2_with fail
        refine (hba _).mono ?_
        rintro ee w6 ⟨rfl, n6, rfl⟩
        go_wp2
        go_meet
        exact ⟨rfl, by first | exact Below.drewN (Below.refl _ _) _ | exact Below.drewN (Below.drewN (Below.refl _ _) _) _ | exact Below.drewN (Below.drewN (Below.drewN (Below.refl _ _) _) _) _⟩
      · obtain rfl := o1 (by first | rfl | trivial)
        clear o1 o2 hab
        go_wp2_with fail
        refine (haa _).mono ?_
        rintro ee w5 ⟨rfl, n5, rfl⟩
        go_wp2_with fail
        refine (hba _).mono ?_
        rintro ee w6 ⟨rfl, n6, rfl⟩
        cases y
        · go_wp2
          go_meet
          exact ⟨rfl, by first | exact Below.drewN (Below.refl _ _) _ | exact Below.drewN (Below.drewN (Below.refl _ _) _) _ | exact Below.drewN (Below.drewN (Below.drewN (Below.refl _ _) _) _) _⟩
        · obtain rfl := o3 (by first | rfl | trivial) (by first | rfl | trivial)
          go_wp2
          go_meet
          exact ⟨rfl, by first | exact Below.drewN (Below.refl _ _) _ | exact Below.drewN (Below.drewN (Below.refl _ _) _) _ | exact Below.drewN (Below.drewN (Below.drewN (Below.refl _ _) _) _) _⟩
  case rest =>
    obtain ⟨rfl, hb1⟩ := hcut
    clear haa hba
    go_upto_region 5 with (fail)
    go_cut [72] (fun u wx => u = .bool false ∧ Below W.heap.size W wx)
    case first =>
      obtain ⟨_, _, _, _, o5, _⟩ := hO.out
      clear hiac hckc hlv hO
      generalize lessF a b = x at *
      generalize insideF a b = i at *
      cases i
      · clear o5 HE
        go_wp2_with fail
        refine (hiab _).mono ?_
        rintro ee w5 ⟨rfl, hb5⟩
        have hb6 := hb1.trans (hb5.mono hb1.size)
        go_wp2
        go_meet
        exact ⟨rfl, hb6⟩
      · by_cases hab : a = b
        · have t1 : ((str a).toList == (str b).toList) = true := by rw [beq_iff_eq]; exact HE.out.2 hab
          clear hab HE o5
          go_wp2_with fail
          refine (hiab _).mono ?_
          rintro ee w5 ⟨rfl, hb5⟩
          have hb6 := hb1.trans (hb5.mono hb1.size)
          go_wp2
          go_meet
          exact ⟨rfl, hb6⟩
        · have t1 : ((str a).toList == (str b).toList) = false := by rw [beq_eq_false_iff_ne]; exact fun e => hab (HE.out.1 e)
          obtain rfl := o5 (by first | rfl | trivial) hab
          clear hab HE o5
          go_wp2_with fail
          refine (hiab _).mono ?_
          rintro ee w5 ⟨rfl, hb5⟩
          have hb6 := hb1.trans (hb5.mono hb1.size)
          go_wp2
          go_meet
          exact ⟨rfl, hb6⟩
    case rest =>
      obtain ⟨rfl, hb2⟩ := hcut
      clear hb1
      go_upto_region 7 with (fail)
      go_cut [93] (fun u wx => u = .bool false ∧ Below W.heap.size W wx)
      case first =>
        obtain ⟨_, _, _, _, _, o6⟩ := hO.out
        clear hlv hO HE
        generalize lessF a c = z at *
        generalize lessF b c = y at *
        generalize insideF a b = i at *
        generalize insideF a c = i2 at *
        have hck := checkF_cases c
        generalize checkF c = k at *
        cases i
        · clear o6
          go_wp2_with fail
          refine (hiab _).mono ?_
          rintro ee w5 ⟨rfl, hb5⟩
          have hb6 := hb2.trans (hb5.mono hb2.size)
          go_wp2
          go_meet
          exact ⟨rfl, hb6⟩
        · cases z
          · clear o6
            go_wp2_with fail
            refine (hiab _).mono ?_
            rintro ee w5 ⟨rfl, hb5⟩
            have hb6 := hb2.trans (hb5.mono hb2.size)
            go_wp2
            go_meet
            exact ⟨rfl, hb6⟩
          · rcases hck with rfl | rfl
            · cases i2
              · obtain rfl := o6 (by first | rfl | trivial) (by first | rfl | trivial) (by first | rfl | trivial) (by first | rfl | trivial)
                clear o6
                go_wp2_with fail
                refine (hiab _).mono ?_
                rintro ee w5 ⟨rfl, hb5⟩
                have hb6 := hb2.trans (hb5.mono hb2.size)
                go_wp2_with fail
                refine (hckc _).mono ?_
                rintro ee w6 ⟨rfl, hb7⟩
                have hb8 := hb6.trans (hb7.mono hb6.size)
                go_wp2_with fail
                refine (hiac _).mono ?_
                rintro ee w7 ⟨rfl, hb9⟩
                have hb10 := hb8.trans (hb9.mono hb8.size)
                go_wp2
                go_meet
                exact ⟨rfl, hb10⟩
              · clear o6
                go_wp2_with fail
                refine (hiab _).mono ?_
                rintro ee w5 ⟨rfl, hb5⟩
                have hb6 := hb2.trans (hb5.mono hb2.size)
                go_wp2_with fail
                refine (hckc _).mono ?_
                rintro ee w6 ⟨rfl, hb7⟩
                have hb8 := hb6.trans (hb7.mono hb6.size)
                go_wp2_with fail
                refine (hiac _).mono ?_
                rintro ee w7 ⟨rfl, hb9⟩
                have hb10 := hb8.trans (hb9.mono hb8.size)
                go_wp2
                go_meet
                exact ⟨rfl, hb10⟩
            · clear o6
              go_wp2_with fail
              refine (hiab _).mono ?_
              rintro ee w5 ⟨rfl, hb5⟩
              have hb6 := hb2.trans (hb5.mono hb2.size)
              go_wp2_with fail
              refine (hckc _).mono ?_
              rintro ee w6 ⟨rfl, hb7⟩
              have hb8 := hb6.trans (hb7.mono hb6.size)
              go_wp2
              go_meet
              exact ⟨rfl, hb8⟩
      case rest =>
        obtain ⟨rfl, hb3⟩ := hcut
        clear hb2
        go_wp2_with fail
        refine (hlv _).mono ?_
        rintro ee w5 ⟨rfl, hb5⟩
        go_wp2
        go_ret
        exact ⟨rfl, hb3.trans (hb5.mono hb3.size)⟩
theorem pathOrders_calls {H : Type} {enc : TypeId × Value → H} {W : World} {base : Nat} {v0 v1 v2 : Value} {d0 d1 d2 : DataW H} {p0 p1 p2 : List MemPlace}
    (o0 : Value.okWide Tryd.prog W .any base 9 v0) (h0 : DataW.Trod enc Tryd.prog W 0 (fun _ => true) true 9 v0 d0 p0)
    (o1 : Value.okWide Tryd.prog W .any base 9 v1) (h1 : DataW.Trod enc Tryd.prog W 0 (fun _ => true) true 9 v1 d1 p1)
    (o2 : Value.okWide Tryd.prog W .any base 9 v2) (h2 : DataW.Trod enc Tryd.prog W 0 (fun _ => true) true 9 v2 d2 p2) :
    Calls Tryd.prog 4 #[v0, v1, v2] W fun e W' => e = .returned (.bool true) ∧ Below W.heap.size W W' := by
  obtain ⟨la, rfl, _⟩ := open_text Tryd.underlying9 o0 h0
  obtain ⟨lb, rfl, _⟩ := open_text Tryd.underlying9 o1 h1
  obtain ⟨lc, rfl, _⟩ := open_text Tryd.underlying9 o2 h2
  exact porders_law la lb lc
end Go.Proofs.YtcanlgcifnjfaaaDoor
