/- Layer 20: Less, Inside. -/
import Derived.Test.YtcanlgcifnjfaaaDoorP2
import Derived.Test.YtcanlgcifnjfaaaDoorOwnS
set_option maxRecDepth 20000
namespace Go.Hd
theorem str_drop (l : List UInt8) (n : Nat) (m : Nat) (h : l.length ≤ m) : (str l).extract n m = str (l.drop n) := by
  rw [Lib.extract_eq, str_data, List.take_of_length_le (by simp; omega)]; rfl
theorem idx_no : ∀ (l : List UInt8) (c : UInt8), c ∉ l → Lib.indexByte l c = -1
  | [], _, _ => rfl
  | b :: l, c, h => by
    have hb : b ≠ c := fun e => h (by simp [e])
    unfold Lib.indexByte
    rw [if_neg (by simpa using hb), idx_no l c (fun e => h (List.mem_cons_of_mem _ e))]
    rfl
/-- A text, cut at its first '/'. -/
structure CutR (a x r : List UInt8) (more : Bool) : Prop where
  yes : more = true → cutP a = x :: cutP r ∧ r.length < a.length
  no : more = false → cutP a = [x]
end Go.Hd
namespace Go.Proofs.YtcanlgcifnjfaaaDoor
open Go.RowKit Go.Hd

theorem scut_any (a : List UInt8) (w : World) (ha : a.length ≤ 1000000) :
    Calls Tryd.prog 44 #[.string (str a), .string ⟨#[47]⟩] w fun e w' => (∃ x r more, e = .returned (.tuple #[.string (str x), .string (str r), .bool more]) ∧ CutR a x r more) ∧ ∃ n, w' = w.drewN n := by
  have hix := (Tryd.stringslite_Index_one (str a) 47 w)
  rw [str_data] at hix
  by_cases hm : (47 : UInt8) ∈ a
  · obtain ⟨p, s, rfl, hp⟩ := List.eq_append_cons_of_mem hm
    rw [idx_at p s 47 hp] at hix
    have hR : Hid (CutR (p ++ 47 :: s) p s true) := ⟨fun _ => ⟨cutP_app p s hp, by simp; omega⟩, (fun h => by cases h)⟩
    have hl : (p ++ 47 :: s).length = p.length + 1 + s.length := by simp; omega
    have hs : (str (p ++ 47 :: s)).size = (p ++ 47 :: s).length := str_size _
    have e1 : (str (p ++ 47 :: s)).extract 0 p.length = str p := by rw [str_take, List.take_left' rfl]
    have e2 : (str (p ++ 47 :: s)).extract (p.length + 1) (p ++ 47 :: s).length = str s := by
      rw [str_drop _ _ _ (Nat.le_refl _), show p ++ 47 :: s = (p ++ [47]) ++ s by simp, List.drop_left' (by simp)]
    have i0 : (0 : Int) ≤ (p.length : Int) := by omega
    have i1 : (p.length : Int) ≤ ((p ++ 47 :: s).length : Int) := by omega
    have i2 : (p.length : Int) + 1 ≤ ((p ++ 47 :: s).length : Int) := by omega
    have iw : IntKind.i64.wrap ((p.length : Int) + 1) = (p.length : Int) + 1 := IntWalk.i64_in _ (by omega)
    generalize p ++ 47 :: s = A at *
    clear hp hm hl
    go_enter Tryd.func44, Tryd.ntmps44
    go_wp2_with fail
    refine hix.mono ?_
    rintro e w1 ⟨rfl, rfl⟩
    go_wp2
    go_quiet (fail)
    go_wp2
    go_ret3
    exact ⟨⟨p, s, true, rfl, hR.out⟩, _, rfl⟩
  · rw [idx_no a 47 hm] at hix
    have hR : Hid (CutR a a [] false) := ⟨(fun h => by cases h), fun _ => cutP_one a hm⟩
    clear hm
    go_enter Tryd.func44, Tryd.ntmps44
    go_wp2_with fail
    refine hix.mono ?_
    rintro e w1 ⟨rfl, rfl⟩
    go_wp2
    go_ret3
    exact ⟨⟨a, [], false, rfl, hR.out⟩, 0, rfl⟩
theorem scut2_any (a : List UInt8) (w : World) (ha : a.length ≤ 1000000) :
    Calls Tryd.prog 33 #[.string (str a), .string ⟨#[47]⟩] w fun e w' => (∃ x r more, e = .returned (.tuple #[.string (str x), .string (str r), .bool more]) ∧ CutR a x r more) ∧ ∃ n, w' = w.drewN n := by
  have h := scut_any a w ha
  clear ha
  go_enter Tryd.func33, Tryd.ntmps33
  go_wp2_with fail
  refine h.mono ?_
  rintro e w1 ⟨⟨x, r, more, rfl, hc⟩, n, rfl⟩
  go_wp2
  go_ret3
  exact ⟨⟨x, r, more, rfl, hc⟩, n, rfl⟩
def strLen : Value → Nat
  | .string s => s.size
  | _ => 0
theorem strLen_str (l : List UInt8) : strLen (.string (str l)) = l.length := str_size l
theorem lessL_nil (a : List (List UInt8)) : lessL a [] = false := by cases a <;> rfl
theorem lessL_pos {a : List (List UInt8)} (h : a ≠ []) : lessL [] a = true := by
  cases a with
  | nil => exact absurd rfl h
  | cons x a => rfl
theorem lessL_cons (x y : List UInt8) (a b : List (List UInt8)) : lessL (x :: a) (y :: b) = if x = y then lessL a b else Op.bytesLess x y := by
  show (if x = y then lessL a b else Op.bytesLess x y) = _
  rfl
set_option maxHeartbeats 1000000 in
theorem less_any (a b : List UInt8) (w : World) (ha : a.length ≤ 1000000) (hb : b.length ≤ 1000000) :
    Calls Tryd.prog 14 #[.string (str a), .string (str b)] w fun e w' => e = .returned (.bool (lessF a b)) ∧ ∃ n, w' = w.drewN n := by
  go_enter Tryd.func14, Tryd.ntmps14
  go_wp2
  go_loopw [0, 1] (fun u v wr => ∃ (x y : List UInt8) (n : Nat), u = .string (str x) ∧ v = .string (str y) ∧ x.length ≤ a.length ∧ y.length ≤ b.length ∧ lessF a b = lessF x y ∧ Hid (wr = w.drewN n)) (fun u _ _ => strLen u)
  case atStart => exact ⟨a, b, 0, rfl, rfl, Nat.le_refl _, Nat.le_refl _, rfl, Lib.hid rfl⟩
  case round =>
    obtain ⟨x, y, n, rfl, rfl, hx, hy, hl, hw⟩ := hrel
    have hc1 := scut2_any x wr (by omega)
    have hc2 := fun w' => scut2_any y w' (by omega)
    have hL := Lib.hid hl
    clear hl
    go_wp2_with fail
    refine hc1.mono ?_
    rintro e w1 ⟨⟨p, r, more, rfl, hcr⟩, n1, rfl⟩
    go_wp2_with fail
    refine (hc2 _).mono ?_
    rintro e w1 ⟨⟨q, s, further, rfl, hcs⟩, n2, rfl⟩
    have HC := Lib.hid (And.intro hcr hcs)
    have hpq : Hid (((str p).toList = (str q).toList) ↔ p = q) := by show _ ↔ _; rw [str_toList, str_toList]
    have hbl : Hid (Op.bytesLess (str p).toList (str q).toList = Op.bytesLess p q) := by show _ = _; rw [str_toList, str_toList]
    have hww : Hid (wr.drewN (n1 + n2) = w.drewN (n + (n1 + n2))) := by show _ = _; rw [hw.out, drewN_two]
    clear hcr hcs hc1 hc2
    by_cases hp : p = q
    · subst hp
      clear hpq hbl
      cases more
      · have hF : Hid (lessF a b = further) := by
          show _ = _
          rw [hL.out]
          unfold lessF
          rw [HC.out.1.no rfl]
          cases further
          · rw [HC.out.2.no rfl, lessL_cons, if_pos rfl]; rfl
          · rw [(HC.out.2.yes rfl).1, lessL_cons, if_pos rfl]; exact lessL_pos (cutP_ne s)
        go_wp2
        go_ret
        exact ⟨by rw [hF.out]; rfl, _, hww.out⟩
      · cases further
        · have hF : Hid (lessF a b = false) := by
            show _ = _
            rw [hL.out]
            unfold lessF
            rw [(HC.out.1.yes rfl).1, HC.out.2.no rfl, lessL_cons, if_pos rfl]; exact lessL_nil _
          go_wp2
          go_ret
          exact ⟨by rw [hF.out]; rfl, _, hww.out⟩
        · have hF : Hid (lessF a b = lessF r s) := by
            show _ = _
            rw [hL.out]
            unfold lessF
            rw [(HC.out.1.yes rfl).1, (HC.out.2.yes rfl).1, lessL_cons, if_pos rfl]
          have h1 := (HC.out.1.yes rfl).2
          have h2 := (HC.out.2.yes rfl).2
          have hm1 : strLen (.string (str r)) < strLen (.string (str x)) := by rw [strLen_str, strLen_str]; exact h1
          go_wp2
          first
            | exact ⟨⟨r, s, _, rfl, rfl, by omega, by omega, hF.out, hww⟩, hm1⟩
            | (refine ⟨?_, hm1⟩; (repeat apply Exists.intro); exact ⟨⟨r, s, _, rfl, rfl, by omega, by omega, hF.out, hww⟩, rfl⟩)
    · have t1 : ((str p).toList == (str q).toList) = false := by rw [beq_eq_false_iff_ne]; exact fun h => hp (hpq.out.1 h)
      have hF : Hid (lessF a b = Op.bytesLess p q) := by
        show _ = _
        rw [hL.out]
        have hx1 : ∃ A, cutP x = p :: A := by
          cases more
          · exact ⟨[], HC.out.1.no rfl⟩
          · exact ⟨_, (HC.out.1.yes rfl).1⟩
        have hy1 : ∃ B, cutP y = q :: B := by
          cases further
          · exact ⟨[], HC.out.2.no rfl⟩
          · exact ⟨_, (HC.out.2.yes rfl).1⟩
        obtain ⟨A, hA⟩ := hx1
        obtain ⟨B, hB⟩ := hy1
        unfold lessF
        rw [hA, hB, lessL_cons, if_neg hp]
      clear hp hpq
      go_wp2
      go_ret
      exact ⟨by rw [hF.out, ← hbl.out]; rfl, _, hww.out⟩
theorem str_app (a b : List UInt8) : str a ++ str b = str (a ++ b) := by
  apply ByteArray.ext
  simp [str]
theorem str_slash (a : List UInt8) (h : a.length ≤ 1000000) : Op.stringOp .add (str a) ⟨#[47]⟩ = pure (.string (str (a ++ [47]))) := by
  have e : str a ++ (⟨#[47]⟩ : ByteArray) = str (a ++ [47]) := str_app a [47]
  have h1 : (str a).size = a.length := str_size a
  have h2 : (⟨#[47]⟩ : ByteArray).size = 1 := rfl
  unfold Op.stringOp
  simp only [e]
  rw [if_neg]
  rw [h1, h2]
  show ¬ _ > (9223372036854775807 : Int)
  omega
set_option maxHeartbeats 1000000 in
theorem inside_any (a b : List UInt8) (w : World) (ha : a.length ≤ 1000000) (hb : b.length ≤ 1000000) :
    Calls Tryd.prog 15 #[.string (str a), .string (str b)] w fun e w' => e = .returned (.bool (insideF a b)) ∧ Below w.heap.size w w' := by
  have hc1 := check_any a w ha
  have hc2 := fun w' => check_any b w' hb
  have hpf := fun w' => prefix_any b (a ++ [47]) w'
  have hI : Hid (insideF a b = (checkF a == 0 && checkF b == 0 && (a == b || beginsB b (a ++ [47])))) := rfl
  have e7 := str_slash a (by omega)
  have hab : Hid (((str a).toList = (str b).toList) ↔ a = b) := by show _ ↔ _; rw [str_toList, str_toList]
  generalize beginsB b (a ++ [47]) = bg at *
  clear ha hb
  rcases checkF_cases a with h1 | h1
  · rw [h1] at hc1 hI
    rcases checkF_cases b with h2 | h2
    · rw [h2] at hc2 hI
      by_cases h : a = b
      · have t1 : (str a).toList = (str b).toList := hab.out.2 h
        have hF : Hid (insideF a b = true) := by show _ = _; rw [hI.out, h]; simp
        clear h hI hab h1 h2
        go_enter Tryd.func15, Tryd.ntmps15
        go_wp2_with fail
        refine hc1.mono ?_
        rintro e w1 ⟨rfl, hb1⟩
        go_wp2_with fail
        refine (hc2 _).mono ?_
        rintro e w2 ⟨rfl, hb2⟩
        go_wp2
        go_ret
        exact ⟨by rw [hF.out]; rfl, Gr.trans hb1 hb2⟩
      · have t1 : ((str a).toList == (str b).toList) = false := by rw [beq_eq_false_iff_ne]; exact fun e => h (hab.out.1 e)
        have hF : Hid (insideF a b = bg) := by show _ = _; rw [hI.out]; simp [h]
        clear h hI hab h1 h2
        go_enter Tryd.func15, Tryd.ntmps15
        go_wp2_with fail
        refine hc1.mono ?_
        rintro e w1 ⟨rfl, hb1⟩
        go_wp2_with fail
        refine (hc2 _).mono ?_
        rintro e w2 ⟨rfl, hb2⟩
        go_wp2_with fail
        refine (hpf _).mono ?_
        rintro e w3 ⟨rfl, rfl⟩
        go_wp2
        go_ret
        refine ⟨?_, Gr.trans hb1 hb2⟩
        rw [hF.out]; rfl
    · rw [h2] at hc2 hI
      have hF : Hid (insideF a b = false) := by show _ = _; rw [hI.out]; simp
      clear hI hab h1 h2
      go_enter Tryd.func15, Tryd.ntmps15
      go_wp2_with fail
      refine hc1.mono ?_
      rintro e w1 ⟨rfl, hb1⟩
      go_wp2_with fail
      refine (hc2 _).mono ?_
      rintro e w2 ⟨rfl, hb2⟩
      go_wp2
      go_ret
      exact ⟨by rw [hF.out]; rfl, Gr.trans hb1 hb2⟩
  · rw [h1] at hc1 hI
    have hF : Hid (insideF a b = false) := by show _ = _; rw [hI.out]; simp
    clear hI hab h1
    go_enter Tryd.func15, Tryd.ntmps15
    go_wp2_with fail
    refine hc1.mono ?_
    rintro e w1 ⟨rfl, hb1⟩
    go_wp2
    go_ret
    exact ⟨by rw [hF.out]; rfl, hb1⟩
end Go.Proofs.YtcanlgcifnjfaaaDoor
