/- Joined: what one statement of this layer stands on, part 14 of 26; nothing is assumed. -/
import Derived.Deep.CutBlock
import Derived.Deep.DeepCutAuto
import Derived.Deep.RegionLaw
import Derived.Laws.StructEq
import Derived.Test.YtpchogicdnfggaaGreatDoorKI2
import Derived.Test.YtpchogicdnfggaaGreatDoorKI3
import Derived.Test.YtpchogicdnfggaaGreatDoorKI4
import Derived.Test.YtpchogicdnfggaaGreatDoorKI9
import Derived.Test.YtpchogicdnfggaaGreatDoorKI13
set_option maxRecDepth 20000
namespace Go.Hd
theorem str_drop (l : List UInt8) (n : Nat) (m : Nat) (h : l.length ≤ m) : (str l).extract n m = str (l.drop n) := by
  rw [Lib.extract_eq, str_data, List.take_of_length_le (by simp; omega)]; rfl
theorem idx_no : ∀ (l : List UInt8) (c : UInt8), c ∉ l → Lib.indexByte l c = -1
  | [], _, _ => rfl
  | b :: l, c, h => by
    have hb : b ≠ c := fun e => h (by simp [e])
    unfold Lib.indexByte
    rw [if_neg (by simpa using hb), idx_no l c (fun e => h (List.mem_cons_of_mem _ e))]
    rfl
/-- A text, cut at its first '/'. -/
structure CutR (a x r : List UInt8) (more : Bool) : Prop where
  yes : more = true → cutP a = x :: cutP r ∧ r.length < a.length
  no : more = false → cutP a = [x]
end Go.Hd
namespace Go.Proofs.YtpchogicdnfggaaGreatDoor
open Go.RowKit Go.Hd

theorem scut_any (a : List UInt8) (w : World) (ha : a.length ≤ 1000000) :
    Calls Tryz.prog 54 #[.string (str a), .string ⟨#[47]⟩] w fun e w' => (∃ x r more, e = .returned (.tuple #[.string (str x), .string (str r), .bool more]) ∧ CutR a x r more) ∧ ∃ n, w' = w.drewN n := by
  have hix := (Tryz.stringslite_Index_one (str a) 47 w)
  rw [str_data] at hix
  by_cases hm : (47 : UInt8) ∈ a
  · obtain ⟨p, s, rfl, hp⟩ := List.eq_append_cons_of_mem hm
    rw [idx_at p s 47 hp] at hix
    have hR : Hid (CutR (p ++ 47 :: s) p s true) := ⟨fun _ => ⟨cutP_app p s hp, by simp; omega⟩, (fun h => by cases h)⟩
    have hl : (p ++ 47 :: s).length = p.length + 1 + s.length := by simp; omega
    have hs : (str (p ++ 47 :: s)).size = (p ++ 47 :: s).length := str_size _
    have e1 : (str (p ++ 47 :: s)).extract 0 p.length = str p := by rw [str_take, List.take_left' rfl]
    have e2 : (str (p ++ 47 :: s)).extract (p.length + 1) (p ++ 47 :: s).length = str s := by
      rw [str_drop _ _ _ (Nat.le_refl _), show p ++ 47 :: s = (p ++ [47]) ++ s by simp, List.drop_left' (by simp)]
    have i0 : (0 : Int) ≤ (p.length : Int) := by omega
    have i1 : (p.length : Int) ≤ ((p ++ 47 :: s).length : Int) := by omega
    have i2 : (p.length : Int) + 1 ≤ ((p ++ 47 :: s).length : Int) := by omega
    have iw : IntKind.i64.wrap ((p.length : Int) + 1) = (p.length : Int) + 1 := IntWalk.i64_in _ (by omega)
    generalize p ++ 47 :: s = A at *
    clear hp hm hl
    go_enter Tryz.func54, Tryz.ntmps54
    go_wp2_with fail
    refine hix.mono ?_
    rintro e w1 ⟨rfl, rfl⟩
    go_wp2
    go_quiet (fail)
    go_wp2
    go_ret3
    exact ⟨⟨p, s, true, rfl, hR.out⟩, _, rfl⟩
  · rw [idx_no a 47 hm] at hix
    have hR : Hid (CutR a a [] false) := ⟨(fun h => by cases h), fun _ => cutP_one a hm⟩
    clear hm
    go_enter Tryz.func54, Tryz.ntmps54
    go_wp2_with fail
    refine hix.mono ?_
    rintro e w1 ⟨rfl, rfl⟩
    go_wp2
    go_ret3
    exact ⟨⟨a, [], false, rfl, hR.out⟩, 0, rfl⟩
theorem scut2_any (a : List UInt8) (w : World) (ha : a.length ≤ 1000000) :
    Calls Tryz.prog 31 #[.string (str a), .string ⟨#[47]⟩] w fun e w' => (∃ x r more, e = .returned (.tuple #[.string (str x), .string (str r), .bool more]) ∧ CutR a x r more) ∧ ∃ n, w' = w.drewN n := by
  have h := scut_any a w ha
  clear ha
  go_enter Tryz.func31, Tryz.ntmps31
  go_wp2_with fail
  refine h.mono ?_
  rintro e w1 ⟨⟨x, r, more, rfl, hc⟩, n, rfl⟩
  go_wp2
  go_ret3
  exact ⟨⟨x, r, more, rfl, hc⟩, n, rfl⟩
def strLen : Value → Nat
  | .string s => s.size
  | _ => 0
theorem strLen_str (l : List UInt8) : strLen (.string (str l)) = l.length := str_size l
theorem lessL_nil (a : List (List UInt8)) : lessL a [] = false := by cases a <;> rfl
theorem lessL_pos {a : List (List UInt8)} (h : a ≠ []) : lessL [] a = true := by
  cases a with
  | nil => exact absurd rfl h
  | cons x a => rfl
theorem lessL_cons (x y : List UInt8) (a b : List (List UInt8)) : lessL (x :: a) (y :: b) = if x = y then lessL a b else Op.bytesLess x y := by
  show (if x = y then lessL a b else Op.bytesLess x y) = _
  rfl
set_option maxHeartbeats 1000000 in
theorem less_any (a b : List UInt8) (w : World) (ha : a.length ≤ 1000000) (hb : b.length ≤ 1000000) :
    Calls Tryz.prog 14 #[.string (str a), .string (str b)] w fun e w' => e = .returned (.bool (lessF a b)) ∧ ∃ n, w' = w.drewN n := by
  go_enter Tryz.func14, Tryz.ntmps14
  go_wp2
  go_loopw [0, 1] (fun u v wr => ∃ (x y : List UInt8) (n : Nat), u = .string (str x) ∧ v = .string (str y) ∧ x.length ≤ a.length ∧ y.length ≤ b.length ∧ lessF a b = lessF x y ∧ Hid (wr = w.drewN n)) (fun u _ _ => strLen u)
  case atStart => exact ⟨a, b, 0, rfl, rfl, Nat.le_refl _, Nat.le_refl _, rfl, Lib.hid rfl⟩
  case round =>
    obtain ⟨x, y, n, rfl, rfl, hx, hy, hl, hw⟩ := hrel
    have hc1 := scut2_any x wr (by omega)
    have hc2 := fun w' => scut2_any y w' (by omega)
    have hL := Lib.hid hl
    clear hl
    go_wp2_with fail
    refine hc1.mono ?_
    rintro e w1 ⟨⟨p, r, more, rfl, hcr⟩, n1, rfl⟩
    go_wp2_with fail
    refine (hc2 _).mono ?_
    rintro e w1 ⟨⟨q, s, further, rfl, hcs⟩, n2, rfl⟩
    have HC := Lib.hid (And.intro hcr hcs)
    have hpq : Hid (((str p).toList = (str q).toList) ↔ p = q) := by show _ ↔ _; rw [str_toList, str_toList]
    have hbl : Hid (Op.bytesLess (str p).toList (str q).toList = Op.bytesLess p q) := by show _ = _; rw [str_toList, str_toList]
    have hww : Hid (wr.drewN (n1 + n2) = w.drewN (n + (n1 + n2))) := by show _ = _; rw [hw.out, drewN_two]
    clear hcr hcs hc1 hc2
    by_cases hp : p = q
    · subst hp
      clear hpq hbl
      cases more
      · have hF : Hid (lessF a b = further) := by
          show _ = _
          rw [hL.out]
          unfold lessF
          rw [HC.out.1.no rfl]
          cases further
          · rw [HC.out.2.no rfl, lessL_cons, if_pos rfl]; rfl
          · rw [(HC.out.2.yes rfl).1, lessL_cons, if_pos rfl]; exact lessL_pos (cutP_ne s)
        go_wp2
        go_ret
        exact ⟨by rw [hF.out]; rfl, _, hww.out⟩
      · cases further
        · have hF : Hid (lessF a b = false) := by
            show _ = _
            rw [hL.out]
            unfold lessF
            rw [(HC.out.1.yes rfl).1, HC.out.2.no rfl, lessL_cons, if_pos rfl]; exact lessL_nil _
          go_wp2
          go_ret
          exact ⟨by rw [hF.out]; rfl, _, hww.out⟩
        · have hF : Hid (lessF a b = lessF r s) := by
            show _ = _
            rw [hL.out]
            unfold lessF
            rw [(HC.out.1.yes rfl).1, (HC.out.2.yes rfl).1, lessL_cons, if_pos rfl]
          have h1 := (HC.out.1.yes rfl).2
          have h2 := (HC.out.2.yes rfl).2
          have hm1 : strLen (.string (str r)) < strLen (.string (str x)) := by rw [strLen_str, strLen_str]; exact h1
          go_wp2
          first
            | exact ⟨⟨r, s, _, rfl, rfl, by omega, by omega, hF.out, hww⟩, hm1⟩
            | (refine ⟨?_, hm1⟩; (repeat apply Exists.intro); exact ⟨⟨r, s, _, rfl, rfl, by omega, by omega, hF.out, hww⟩, rfl⟩)
    · have t1 : ((str p).toList == (str q).toList) = false := by rw [beq_eq_false_iff_ne]; exact fun h => hp (hpq.out.1 h)
      have hF : Hid (lessF a b = Op.bytesLess p q) := by
        show _ = _
        rw [hL.out]
        have hx1 : ∃ A, cutP x = p :: A := by
          cases more
          · exact ⟨[], HC.out.1.no rfl⟩
          · exact ⟨_, (HC.out.1.yes rfl).1⟩
        have hy1 : ∃ B, cutP y = q :: B := by
          cases further
          · exact ⟨[], HC.out.2.no rfl⟩
          · exact ⟨_, (HC.out.2.yes rfl).1⟩
        obtain ⟨A, hA⟩ := hx1
        obtain ⟨B, hB⟩ := hy1
        unfold lessF
        rw [hA, hB, lessL_cons, if_neg hp]
      clear hp hpq
      go_wp2
      go_ret
      exact ⟨by rw [hF.out, ← hbl.out]; rfl, _, hww.out⟩
end Go.Proofs.YtpchogicdnfggaaGreatDoor
set_option maxRecDepth 20000
namespace Go.Proofs.YtpchogicdnfggaaGreatDoor
open Go.RowKit Go.Hd
attribute [local go_sem ↓] h_ldV h_stV h_alV
attribute [local go_sem] r_ldV r_stV r_alV

theorem WrO.someO {B g : Nat} {w : World} {l : List UInt8} (h : WrO B w g (Option.some l)) : ∃ a c, w.cell? ⟨g, 0, none⟩ = Option.some (.slice a l.length c) ∧ w.cell? ⟨g, 1, none⟩ = Option.some (.bool false) ∧ l.length ≤ c ∧ c ≤ maxLen ∧ Row w a (l.map b8) ∧ (0 < l.length → B ≤ (hd a).block) := by
  obtain ⟨⟨l', f⟩, ⟨v, hB, _⟩, ha⟩ := h
  cases f with
  | true => cases ha
  | false =>
    obtain rfl : l' = l := by simpa [absW] using ha
    obtain ⟨a, c, rfl, hc, hm, hr, ho⟩ := owns_at hB.own
    exact ⟨a, c, hB.blk.cell rfl, hB.blk.cell rfl, hc, hm, hr, fun h => (ho (by simpa using h)).1⟩
/-- Bytes in memory of the call's own. -/
def BRn (base : Nat) (w : World) (v : Value) (l : List UInt8) : Prop := ∃ a c, v = .slice a l.length c ∧ l.length ≤ c ∧ c ≤ maxLen ∧ Row w a (l.map b8) ∧ (0 < l.length → base ≤ (hd a).block)
theorem BRn.nil (base : Nat) (w : World) : BRn base w (.slice none 0 0) [] := ⟨none, 0, rfl, Nat.le_refl _, Nat.zero_le _, Row.nil _ _, fun h => absurd h (Nat.lt_irrefl _)⟩
set_option maxHeartbeats 1000000 in
theorem enc_own {w0 w : World} {cs : List Value} {v : PV} (h : VAt w0 cs v) (hbw : Below w0.heap.size w0 w) :
    Calls Tryz.prog 29 #[.agg cs.toArray] w fun e w' => ∃ u, e = .returned (.tuple #[u, .int .i64 (encF v).2]) ∧ BRn w.heap.size w' u (encF v).1 ∧ Below w.heap.size w w' := by
  have hsz := hbw.size
  have hb0 : Below w.heap.size w (w.alloc (.cells cs.toArray 50)) := (Below.refl _ _).alloc (Nat.le_refl _) _
  have B0 : Blk (w.alloc (.cells cs.toArray 50)) w.heap.size 50 cs.toArray.toList := Blk.new _ _ _
  have x6 : cs.toArray.size = 6 := by simpa using h.len
  have hcan := can_any h 16 (w.alloc (.cells cs.toArray 50)) (by decide) (hbw.trans (hb0.mono hsz))
  go_enter Tryz.func29, Tryz.ntmps29
  go_wp2_with fail
  refine hcan.mono ?_
  rintro e w1 ⟨rfl, hb1⟩
  have B1 := B0.below hb1
  have hbw1 : Below w.heap.size w w1 := Gr.trans hb0 hb1
  cases hc : canF 16 v with
  | false =>
    have HE : Hid (encF v = ([], 4)) := by show _ = _; unfold encF; rw [if_pos hc]
    clear hc hcan
    go_wp2
    go_ret2
    rw [HE.out]
    exact ⟨_, rfl, BRn.nil _ _, hbw1⟩
  | true =>
    have hn := WrO.new w1
    have hb2 : Below w1.heap.size w1 (w1.alloc (.cells #[.slice none 0 0, .bool false] 107)) := (Below.refl _ _).alloc (Nat.le_refl _) _
    have q2 : (ldOp 50 (.pointer (some ⟨w.heap.size, 0, none⟩))).run Tryz.prog (w1.alloc (.cells #[.slice none 0 0, .bool false] 107)) = .ok (.agg cs.toArray) (w1.alloc (.cells #[.slice none 0 0, .bool false] 107)) := by
      have := ldOp_all (P := Tryz.prog) (ty := 50) (B1.below hb2) Tryz.underlying50 rfl (by rw [Array.length_toList, x6]; exact sizeV)
      simpa using this
    have hbw2 := hbw1.trans (hb2.mono hbw1.size)
    have hv := value_any h 16 _ _ _ _ hc (hbw.trans (hbw2.mono hsz)) (by have := hbw1.size; omega) hn
    have hce := hc
    clear hc hcan
    go_wp2_with fail
    refine hv.mono ?_
    rintro e w3 ⟨rfl, hw3, hk3⟩
    have hb3 : Below w.heap.size w w3 := hbw2.trans (Kp.past hk3.kp hbw1.size hn.lt)
    cases ho : encO 16 (some []) v with
    | none =>
      rw [ho] at hw3
      have c1 := hw3.none'
      have HE : Hid (encF v = ([], 5)) := by show _ = _; unfold encF; rw [if_neg (by rw [hce]; decide), ho]
      clear ho hce hv hn hw3
      go_wp2
      go_ret2
      rw [HE.out]
      exact ⟨_, rfl, BRn.nil _ _, hb3⟩
    | some l =>
      rw [ho] at hw3
      obtain ⟨a, c, c0, c1, hlc, hcm, hrow, hfr⟩ := hw3.someO
      have hs1 := hbw1.size
      have HE : Hid (encF v = (l, 0)) := by show _ = _; unfold encF; rw [if_neg (by rw [hce]; decide), ho]
      clear ho hce hv hn hw3
      go_wp2
      go_ret2
      rw [HE.out]
      exact ⟨_, rfl, ⟨a, c, rfl, hlc, hcm, hrow, fun h => by have := hfr h; omega⟩, hb3⟩
end Go.Proofs.YtpchogicdnfggaaGreatDoor
set_option maxRecDepth 20000
namespace Go.Proofs.YtpchogicdnfggaaGreatDoor
open Go.RowKit Go.Hd
def recB (x : Itm) : List UInt8 := (putL (encF (itV x)).1.length 4).reverse ++ (encF (itV x)).1
def strB (l : List Itm) : List UInt8 := (l.map recB).flatten
def strE : List Itm → Int
  | [] => 0
  | x :: l => if checkI x ≠ 0 then checkI x else if (encF (itV x)).2 ≠ 0 then (encF (itV x)).2 else strE l
/-- Rising, as paths go. -/
def risesP : List (List UInt8) → Bool
  | a :: b :: l => lessF a b && risesP (b :: l)
  | _ => true
theorem risesP_snoc : ∀ (l : List (List UInt8)) (r s : List UInt8), risesP (l ++ [r, s]) = (risesP (l ++ [r]) && lessF r s)
  | [], r, s => by simp [risesP]
  | [x], r, s => by simp [risesP]
  | x :: y :: l, r, s => by
    have := risesP_snoc (y :: l) r s
    simp only [List.cons_append, risesP] at this ⊢
    rw [this, Bool.and_assoc]
theorem risesP_take (l : List (List UInt8)) (i : Nat) (h : i + 1 < l.length) : risesP (l.take (i + 2)) = (risesP (l.take (i + 1)) && lessF l[i] l[i + 1]) := by
  rw [List.take_succ_eq_append_getElem h, List.take_succ_eq_append_getElem (by omega : i < l.length), List.append_assoc]
  exact risesP_snoc _ _ _
theorem risesP_one (l : List (List UInt8)) : risesP (l.take 1) = true := by
  match l with
  | [] => rfl
  | x :: l => rfl
theorem risesP_of (l : List (List UInt8)) (n : Nat) (h : risesP l = true) : risesP (l.take n) = true := by
  induction l generalizing n with
  | nil => simp [risesP]
  | cons r l ih =>
    match n, l with
    | 0, _ => rfl
    | 1, _ => simp [risesP]
    | n + 2, [] => simp [risesP]
    | n + 2, s :: l =>
      simp only [risesP, Bool.and_eq_true] at h
      have := ih (n + 1) h.2
      simp only [List.take_succ_cons, risesP, h.1, Bool.true_and] at this ⊢
      exact this
theorem risesP_not {ks : List (List UInt8)} {j : Nat} (h : risesP (ks.take j) = false) : risesP ks = false := by
  rcases Bool.eq_false_or_eq_true (risesP ks) with h2 | h2
  · rw [risesP_of ks j h2] at h; cases h
  · exact h2
/-- The bytes that items are, or why none. -/
def streamF (l : List Itm) : List UInt8 × Int := if 100 < l.length then ([], 16) else if strE l ≠ 0 then ([], strE l) else if risesP (l.map (·.path)) = true then (strB l, 0) else ([], 18)
theorem encF_small (v : PV) : (encF v).1.length ≤ 65536 := by
  unfold encF
  split
  · simp
  · cases h : encO 16 (some []) v with
    | none => simp
    | some x => exact enc_len 16 v [] x (by decide) h
theorem recB_len (x : Itm) : (recB x).length = 4 + (encF (itV x)).1.length := by unfold recB; simp [putL_length]
theorem strB_snoc (l : List Itm) (x : Itm) : strB (l ++ [x]) = strB l ++ recB x := by unfold strB; simp
theorem strB_len : ∀ l : List Itm, (strB l).length ≤ 65540 * l.length
  | [] => by simp [strB]
  | x :: l => by
    have ih := strB_len l
    have h := recB_len x
    have h2 := encF_small (itV x)
    unfold strB at *
    simp only [List.map_cons, List.flatten_cons, List.length_append, List.length_cons]
    omega
theorem addr_add0 (x : Addr) : x.add 0 = x := by unfold Addr.add; simp
/-- An item's cells in this memory. -/
def ItAt (w : World) (cs : List Value) (x : Itm) : Prop := ∃ a c, cs = itC x a c ∧ x.parts.length ≤ c ∧ c ≤ maxLen ∧ Row w a (x.parts.map prtC).flatten ∧ ItmOk x
theorem ItAt.below {w w' : World} {cs : List Value} {x : Itm} (h : ItAt w cs x) (hb : Below w.heap.size w w') : ItAt w' cs x := by
  obtain ⟨a, c, h1, h2, h3, h4, h5⟩ := h
  exact ⟨a, c, h1, h2, h3, h4.below hb, h5⟩
theorem ItAt.len {w : World} {cs : List Value} {x : Itm} (h : ItAt w cs x) : cs.length = 7 := by
  obtain ⟨a, c, rfl, _⟩ := h; rfl
/-- Items in a row. -/
def ItsAt (w : World) (a : Option Addr) (l : List Itm) : Prop := ∃ css : List (List Value), css.length = l.length ∧ Row w a css.flatten ∧ (∀ c ∈ css, c.length = 7) ∧ ∀ (i : Nat) (c : List Value) (x : Itm), css[i]? = some c → l[i]? = some x → ItAt w c x
theorem ItsAt.below {w w' : World} {a : Option Addr} {l : List Itm} (h : ItsAt w a l) (hb : Below w.heap.size w w') : ItsAt w' a l := by
  obtain ⟨css, h1, h2, h3, h4⟩ := h
  exact ⟨css, h1, h2.below hb, h3, fun i c x hc hx => (h4 i c x hc hx).below hb⟩
theorem ItAt.one {w : World} {cs : List Value} {x : Itm} (h : ItAt w cs x) : ∀ v ∈ cs, v.oneCell' = true := by
  obtain ⟨a, c, rfl, _⟩ := h
  intro v hv
  simp only [itC, List.mem_cons, List.not_mem_nil, or_false] at hv
  rcases hv with rfl | rfl | rfl | rfl | rfl | rfl | rfl <;> rfl
theorem ItsAt.get {w : World} {a : Option Addr} {l : List Itm} (h : ItsAt w a l) {j : Nat} (hj : j < l.length) : ∃ cs, cs.length = 7 ∧ ItAt w cs l[j] ∧ a.isSome = true ∧ ∀ k v, cs[k]? = some v → w.cell? (((hd a).add (j * 7)).add k) = some v := by
  obtain ⟨css, h1, h2, h3, h4⟩ := h
  have hjc : j < css.length := by omega
  have e1 : css[j]? = some css[j] := List.getElem?_eq_getElem hjc
  refine ⟨css[j], h3 _ (List.getElem_mem hjc), h4 j _ _ e1 (List.getElem?_eq_getElem hj), h2.elemSome h3 (by decide) hjc, fun k v hv => h2.elem h3 e1 k v hv⟩
theorem ItsAt.path {w : World} {a : Option Addr} {l : List Itm} (h : ItsAt w a l) {j : Nat} (hj : j < l.length) : w.cell? ((hd a).add (j * 7)) = some (.string (str l[j].path)) ∧ a.isSome = true := by
  obtain ⟨cs, h1, ⟨ap, cp, rfl, _⟩, h3, h4⟩ := h.get hj
  have := h4 0 (strV l[j].path) rfl
  rw [addr_add0] at this
  exact ⟨this, h3⟩
/-- Bytes put behind a row of the call's own. -/
theorem own_appB {w : World} {base : Nat} {v : Value} {l : List UInt8} (h : w.ownsRow base 5 1 v l.length (l.map b8)) {a : Option Addr} {n c : Nat} {m : List UInt8} (hm : Row w a (m.map b8)) (hn : n = m.length)
    (hl : l.length + m.length ≤ 140737488355328) (hb : base ≤ w.heap.size) :
    ∃ v' w', (Builtin.append_ #[22, 22] 22 #[v, .slice a n c]).run Tryz.prog w = .ok v' w' ∧ w'.ownsRow base 5 1 v' (l ++ m).length ((l ++ m).map b8) ∧ Gro w w' v v' := by
  subst hn
  have hsrc : Src Tryz.prog 1 22 (.slice a m.length c) m.length (m.map b8) w := Src.ofRow eB.ht a m.length c (m.map b8) (by decide) (by simp) hm (bytes_one m)
  obtain ⟨v', w', h1, h2, h3, h4⟩ := append_srcK (ty := 22) eB h hsrc (by unfold maxLen; omega) (by omega) hb
  refine ⟨v', w', h1, ?_, ⟨h3, h4⟩⟩
  rw [List.length_append, List.map_append]; exact h2
theorem own_lt {w : World} {base : Nat} {e : TypeId} {v : Value} {n size : Nat} {xs : List Value} (h : w.ownsRow base e size v n xs) : ∀ k, v.ownBlock = some k → base ≤ k := by
  intro k hk
  obtain ⟨hl, ⟨rfl, rfl⟩ | ⟨g, c, cur, rfl, hg, hb, hn, hm, hy, ht⟩⟩ := h
  · simp [Value.ownBlock] at hk
  · simp [Value.ownBlock] at hk
    omega
theorem own_old {w : World} {base : Nat} {e : TypeId} {v : Value} {n size : Nat} {xs : List Value} (h : w.ownsRow base e size v n xs) : ∀ k, v.ownBlock = some k → k < w.heap.size := by
  intro k hk
  obtain ⟨hl, ⟨rfl, rfl⟩ | ⟨g, c, cur, rfl, hg, hb, hn, hm, hy, ht⟩⟩ := h
  · simp [Value.ownBlock] at hk
  · simp [Value.ownBlock] at hk
    have hB : Blk w g e cur.toList := by unfold Blk; simpa using hb
    have := hB.lt
    omega
theorem own_brd {w : World} {base : Nat} {v : Value} {l : List UInt8} (h : w.ownsRow base 5 1 v l.length (l.map b8)) : BRd w v l := by
  obtain ⟨a, c, rfl, h2, h3, h4, _⟩ := owns_rowN h (by decide)
  exact ⟨a, c, rfl, h2, h3, h4⟩
section
variable (ρ : Operand → Value) (dst : Option Tmp) (ty : TypeId) (pos : String) (after : Array Edge) (guard : Option (Nat × Bool))
theorem h_stIT (x y : Operand) : execOp ρ { dst, op := .store 40 x y, type := ty, pos, after, guard } = (do stoOp 40 (ρ x) (ρ y); pure .skip) := rfl
theorem h_alIT : execOp ρ { dst, op := .alloc 40, type := ty, pos, after, guard } = (do pure (.value (← alOp 40))) := rfl
end
def zIT : Array Value := #[.string .empty, .int .i64 0, .int .i64 0, .int .i64 0, .string .empty, .int .i64 0, .slice none 0 0]
theorem zIT_size : zIT.size = 7 := rfl
theorem infoIT : (Tryz.prog.info? 40).map (fun i => (i.zero, i.size)) = some (some (.agg zIT), 7) := by kernel_rfl
theorem zeroIT : (Tryz.prog.info? 40).bind (·.zero) = some (.agg zIT) := by kernel_rfl
theorem r_ldIT {w : World} {b : Nat} {cs : Array Value} {T : TypeId} (hb : w.heap.size = b) (hs : cs.size = 7) : (ldOp 40 (.pointer (some ⟨b, 0, none⟩))).run Tryz.prog (w.alloc (.cells cs T)) = .ok (.agg cs) (w.alloc (.cells cs T)) :=
  ldOp_new hb Tryz.underlying40 rfl (by rw [hs]; exact sizeIT)
theorem r_stIT {w : World} {b : Nat} {old cs : Array Value} {T : TypeId} (hb : w.heap.size = b) (ho : old.size = 7) (hs : cs.size = 7) (h1 : OneC cs) : (stoOp 40 (.pointer (some ⟨b, 0, none⟩)) (.agg cs)).run Tryz.prog (w.alloc (.cells old T)) = .ok () (w.alloc (.cells cs T)) :=
  stOp_new hb (by rw [hs]; exact sizeIT) (by rw [ho, hs]) h1
theorem r_alIT {w : World} : (alOp 40).run Tryz.prog w = .ok (.pointer (some ⟨w.heap.size, 0, none⟩)) (w.alloc (.cells zIT 40)) := alOp_run zeroIT
theorem eIT : Elem Tryz.prog 25 40 (.agg zIT) 7 88 := ⟨by kernel_rfl, by kernel_rfl, rfl, by decide⟩
attribute [local go_sem ↓] h_ldIT h_stIT h_alIT
attribute [local go_sem] r_ldIT r_stIT r_alIT
set_option maxHeartbeats 8000000 in
theorem stream_any {a : Option Addr} {n c : Nat} {l : List Itm} {w : World} (hn : n = l.length) (hI : ItsAt w a l) (hp : ∀ x ∈ l, x.path.length ≤ 1000000 ∧ x.parts.length ≤ 1000) (hl : l.length ≤ 1000000) :
    Calls Tryz.prog 21 #[.slice a n c] w fun e w' => ∃ u, e = .returned (.tuple #[u, .int .i64 (streamF l).2]) ∧ BRd w' u (streamF l).1 ∧ Below w.heap.size w w' := by
  subst hn
  have zt := zIT_size
  have hF : Hid (streamF l = if 100 < l.length then ([], 16) else if strE l ≠ 0 then ([], strE l) else if risesP (l.map (·.path)) = true then (strB l, 0) else ([], 18)) := rfl
  generalize streamF l = F at *
  by_cases h100 : 100 < l.length
  · have e1 : (100 : Int) < (l.length : Int) := by omega
    have hT : Hid (F = ([], 16)) := by show _ = _; rw [hF.out, if_pos h100]
    clear hF
    go_enter Tryz.func21, Tryz.ntmps21
    go_wp2
    go_ret2
    exact ⟨.slice none 0 0, by rw [hT.out] <;> rfl, by rw [hT.out]; exact BRd.nil _, Below.refl _ _⟩
  have e1 : ¬ (100 : Int) < (l.length : Int) := by omega
  have hF2 : Hid (F = if strE l ≠ 0 then ([], strE l) else if risesP (l.map (·.path)) = true then (strB l, 0) else ([], 18)) := by show _ = _; rw [hF.out, if_neg h100]
  have hS0 : Hid (strE (l.drop 0) = strE l) := rfl
  have HL : Hid (l.length ≤ 100) := by show _ ≤ _; omega
  have HP := Lib.hid hp
  have HI := Lib.hid hI
  generalize hSE : strE l = SE at *
  clear hF h100 hp hI hSE hl
  go_enter Tryz.func21, Tryz.ntmps21
  go_upto_block 0 with (fail)
  go_cut [4] (fun u wx => SE = 0 ∧ wx.ownsRow w.heap.size 5 1 u (strB l).length ((strB l).map b8) ∧ Below w.heap.size w wx)
  case first =>
    go_wp2
    go_loopw [4, 16] (fun u i wr => ∃ j : Nat, j ≤ l.length ∧ i = .int .i64 j ∧ Hid (strE (l.drop j) = SE) ∧ Hid (wr.ownsRow w.heap.size 5 1 u (strB (l.take j)).length ((strB (l.take j)).map b8)) ∧ Hid (Below w.heap.size w wr)) (fun _ i _ => l.length - (intOf i).toNat)
    case atStart => exact ⟨0, Nat.zero_le _, rfl, hS0, Lib.hid (World.ownsRow_nil _ _ _ _), Lib.hid (Below.refl _ _)⟩
    case round =>
      obtain ⟨j, hj, rfl, hE, hO, hb⟩ := hrel
      have j0 : (0 : Int) ≤ (j : Int) := by omega
      have jb : IntKind.i64.wrap ((j : Int) + 1) = (j : Int) + 1 := IntWalk.i64_in _ (by have := HL.out; omega)
      clear hS0
      by_cases hlt : j < l.length
      · have j1 : (j : Int) < (l.length : Int) := by omega
        obtain ⟨cs, c7, hIt, s1, hcl⟩ := (HI.out.below hb.out).get hlt
        have q1 := ldOp_at (P := Tryz.prog) (ty := 40) (cs := cs) hcl Tryz.underlying40 rfl (by rw [c7]; exact sizeIT)
        have hE2 : Hid ((if checkI l[j] ≠ 0 then checkI l[j] else if (encF (itV l[j])).2 ≠ 0 then (encF (itV l[j])).2 else strE (l.drop (j + 1))) = SE) := by
          show _ = _
          rw [← hE.out, List.drop_eq_getElem_cons hlt]; rfl
        have hTk : Hid (strB (l.take (j + 1)) = strB (l.take j) ++ recB l[j]) := by show _ = _; rw [List.take_succ_eq_append_getElem hlt, strB_snoc]
        have hPx := HP.out _ (List.getElem_mem hlt)
        have hlen := strB_len (l.take j)
        have hlj : (l.take j).length ≤ 100 := by have := HL.out; simp; omega
        generalize l[j] = x at *
        have x1 : cs.toArray.size = 7 := by simpa using c7
        have x2 : OneC cs.toArray := all_oneCell_toArray hIt.one
        clear hE
        go_upto_region 7 with (fail)
        have hxB : Blk (wr.alloc (.cells cs.toArray 40)) wr.heap.size 40 cs := Blk.new wr 40 _
        have hb0x : Below wr.heap.size wr (wr.alloc (.cells cs.toArray 40)) := (Below.refl _ _).alloc (Nat.le_refl _) _
        have hbW := Lib.hid (hb.out.trans (hb0x.mono hb.out.size))
        have hO1 := Lib.hid (ownsRow_below hO.out hb0x)
        have hI1 := hIt.below hb0x
        obtain ⟨ap, cp, rfl, p1, p2, hpr, hok⟩ := hI1
        generalize wr.alloc (.cells (itC x ap cp).toArray 40) = W at *
        generalize wr.heap.size = qx at *
        have d0 := ldOp_all (P := Tryz.prog) (ty := 40) hxB Tryz.underlying40 rfl (by rw [c7]; exact sizeIT)
        have hck := icheck_any (c := cp) hpr hok (by omega) hPx.1
        clear q1 hb hb0x s1 hO hIt hcl x1 x2
        go_wp2_with fail
        refine hck.mono ?_
        rintro e w2 ⟨rfl, hb2⟩
        by_cases h0 : checkI x = 0
        case neg =>
          have eb : (checkI x != 0) = true := by simpa using h0
          have hT : Hid (F = ([], checkI x)) := by
            show _ = _
            have h1 := hE2.out
            rw [if_pos h0] at h1
            rw [hF2.out, ← h1, if_pos h0]
          have hbf := Lib.hid (hbW.out.trans (hb2.mono hbW.out.size))
          clear hF2 hE2 hbW hO1 hpr hck d0
          generalize checkI x = CI at *
          go_wp2
          go_ret2
          exact ⟨.slice none 0 0, by rw [hT.out] <;> rfl, by rw [hT.out]; exact BRd.nil _, hbf.out⟩
        case pos =>
        rw [h0]
        have hxB2 := hxB.below hb2
        have hpr2 := hpr.below hb2
        have hbW2 := Lib.hid (hbW.out.trans (hb2.mono hbW.out.size))
        have hO2 := Lib.hid (ownsRow_below hO1.out hb2)
        have hE3 : Hid ((if (encF (itV x)).2 ≠ 0 then (encF (itV x)).2 else strE (l.drop (j + 1))) = SE) := by show _ = _; have h1 := hE2.out; rw [h0] at h1; exact h1
        clear hxB hpr hbW hO1 hE2 hck d0 hb2
        have d0 := ldOp_all (P := Tryz.prog) (ty := 40) hxB2 Tryz.underlying40 rfl (by rw [c7]; exact sizeIT)
        go_wp2_with fail
        refine (ivalue_any (c := cp) hpr2 hok hPx.2 hPx.1).mono ?_
        rintro e w3 ⟨vs, rfl, hV, hb3⟩
        have hbW3 := Lib.hid (hbW2.out.trans (hb3.mono hbW2.out.size))
        have hO3 := Lib.hid (ownsRow_below hO2.out hb3)
        clear hbW2 hO2 hpr2 hxB2 hb3 d0
        go_wp2_with fail
        refine (enc_own hV.at (Below.refl _ _)).mono ?_
        rintro e w4 ⟨ub, rfl, ⟨ab, cb, rfl, g1, g2, hrb, hfr⟩, hb4⟩
        have hown3 := own_old hO3.out
        have hbW4 := Lib.hid (hbW3.out.trans (hb4.mono hbW3.out.size))
        have hO4 := Lib.hid (ownsRow_below hO3.out hb4)
        clear hbW3 hO3 hV hb4
        have hrec : Hid (recB x = (putL (encF (itV x)).1.length 4).reverse ++ (encF (itV x)).1) := rfl
        have hes := encF_small (itV x)
        generalize (encF (itV x)).2 = EE at *
        generalize (encF (itV x)).1 = EB at *
        generalize recB x = RB at *
        by_cases h1 : EE = 0
        case neg =>
          have eb : (EE != 0) = true := by simpa using h1
          have hT : Hid (F = ([], EE)) := by
            show _ = _
            have h2 := hE3.out
            rw [if_pos h1] at h2
            rw [hF2.out, ← h2, if_pos h1]
          clear hF2 hE3
          go_wp2
          go_ret2
          exact ⟨.slice none 0 0, by rw [hT.out] <;> rfl, by rw [hT.out]; exact BRd.nil _, hbW4.out⟩
        case pos =>
        subst h1
        have hE4 : Hid (strE (l.drop (j + 1)) = SE) := by show _ = _; rw [← hE3.out, if_neg (by simp)]
        have eu : IntKind.u64.wrap (EB.length : Int) = (EB.length : Int) := by rw [IntKind.wrap_u64]; omega
        clear hE3
        go_wp2_with fail
        refine (big_any EB.length 4 _ (by omega) (by decide) (by decide)).mono ?_
        rintro e w5 ⟨pv, rfl, hF⟩
        obtain ⟨a5, c5, rfl, hr5, hb5, hm5, _⟩ := hF.open
        have hbW5 := Lib.hid (hbW4.out.trans (hb5.mono hbW4.out.size))
        have hO5 := ownsRow_below hO4.out hb5
        have hrb5 := hrb.below hb5
        have l4 : (putL EB.length 4).reverse.length = 4 := by simp [putL_length]
        have sz5 := hbW5.out.size
        obtain ⟨v6, w6, hrun6, hO6, hg6⟩ := own_appB (c := c5) hO5 hr5 rfl (by rw [l4]; omega) sz5
        have hb6 := hg6.below (base := w.heap.size) (old := w.heap.size) (own_lt hO5) (Nat.le_refl _) sz5
        have hrb6 : Row w6 ab (EB.map b8) := hrb5.keptFar hg6.gr (fun h0 e => by
          have h1 := hfr (by simpa using h0)
          have h2 := hown3 _ e
          omega)
        have sz6 := hg6.size
        have hll : (strB (l.take j) ++ (putL EB.length 4).reverse).length + EB.length ≤ 140737488355328 := by rw [List.length_append, l4]; omega
        obtain ⟨v7, w7, hrun7, hO7, hg7⟩ := own_appB (n := EB.length) (c := cb) hO6 hrb6 rfl hll (by omega)
        have hbW7 := Lib.hid ((hbW5.out.trans hb6).trans (hg7.below (base := w.heap.size) (old := w.heap.size) (own_lt hO6) (Nat.le_refl _) (by omega)))
        have hO8 : Hid (w7.ownsRow w.heap.size 5 1 v7 (strB (l.take (j + 1))).length ((strB (l.take (j + 1))).map b8)) := by
          show World.ownsRow _ _ _ _ _ _ _
          rw [hTk.out, hrec.out, ← List.append_assoc]; exact hO7
        rw [l4] at hrun6
        go_upto_region 14 with (at_builtin; refine wpList_append_run hrun6 rfl rfl rfl rfl ?_)
        clear hrun6 hO6 hO7 hg7 hg6 hb6 hrb6 hrb5 hr5 hrb hO4 hO5 hbW4 hbW5
        go_wp2_with (at_builtin; refine wpList_append_run hrun7 rfl rfl rfl rfl ?_)
        first
          | exact ⟨⟨j + 1, by omega, (by first | rfl | go_num | (congr 1; omega)), hE4, hO8, hbW7⟩, by simp [intOf] <;> omega⟩
          | (refine ⟨?_, by simp [intOf] <;> omega⟩; (repeat apply Exists.intro); exact ⟨⟨j + 1, by omega, (by first | rfl | go_num | (congr 1; omega)), hE4, hO8, hbW7⟩, rfl⟩)
      · have hSE : SE = 0 := by rw [← hE.out, List.drop_eq_nil_of_le (by omega)]; rfl
        have j1 : ¬ (j : Int) < (l.length : Int) := by omega
        have hO9 : wr.ownsRow w.heap.size 5 1 u4 (strB l).length ((strB l).map b8) := by
          have := hO.out
          rw [List.take_of_length_le (by omega)] at this; exact this
        have hh := Lib.hid (And.intro hSE (And.intro hO9 hb.out))
        clear hSE hO9
        go_wp2
        go_meet
        exact hh.out
  case rest =>
    obtain ⟨hSE, hOc, hbc⟩ := hcut
    have HR : Hid (F = if risesP (l.map (·.path)) = true then (strB l, 0) else ([], 18)) := by show _ = _; rw [hF2.out, if_neg (by rw [hSE]; simp)]
    have HB := Lib.hid hbc
    have HO := Lib.hid hOc
    have hrc := Lib.hid (HI.out.below hbc)
    clear hF2 hSE hS0 hbc hOc HI
    go_wp2
    go_loopw [10] (fun i wr => ∃ j : Nat, 1 ≤ j ∧ j ≤ l.length + 1 ∧ i = .int .i64 j ∧ Hid (risesP ((l.map (·.path)).take j) = true) ∧ Hid (∃ n, wr = wc.drewN n)) (fun i _ => l.length + 1 - (intOf i).toNat)
    case atStart => exact ⟨1, Nat.le_refl _, by omega, rfl, Lib.hid (risesP_one _), Lib.hid ⟨0, by rw [World.drewN_zero]⟩⟩
    case round =>
      obtain ⟨j, hj1, hj, rfl, hri, hwr⟩ := hrel
      obtain ⟨nn, hwr⟩ := hwr.out
      have j0 : (0 : Int) ≤ (j : Int) := by omega
      have jb : IntKind.i64.wrap ((j : Int) + 1) = (j : Int) + 1 := IntWalk.i64_in _ (by have := HL.out; omega)
      by_cases hlt : j < l.length
      · have j1 : (j : Int) < (l.length : Int) := by omega
        have hrw : ItsAt wr a l := by rw [hwr]; exact hrc.out.below (Below.drewN (Below.refl _ _) nn)
        obtain ⟨k, hk⟩ : ∃ k, k = j - 1 := ⟨_, rfl⟩
        have hkl : k < l.length := by omega
        have im : IntKind.i64.wrap ((j : Int) - 1) = (k : Int) := by rw [IntWalk.i64_in _ (by have := HL.out; omega)]; omega
        have k0 : (0 : Int) ≤ (k : Int) := by omega
        have k1 : (k : Int) < (l.length : Int) := by omega
        obtain ⟨q1, s1⟩ := hrw.path hlt
        have q2 := (hrw.path hkl).1
        have hbF : Hid (∀ n, Below w.heap.size w (wr.drewN n)) := fun n => by rw [hwr, World.drewN_drewN]; exact Below.drewN HB.out _
        have hNX : Hid (∀ n, ∃ m, wr.drewN n = wc.drewN m) := fun n => ⟨nn + n, by rw [hwr, World.drewN_drewN]⟩
        have hRT : Hid (risesP ((l.map (·.path)).take (j + 1)) = lessF (l[k]).path (l[j]).path) := by
          show _ = _
          obtain rfl : j = k + 1 := by omega
          rw [risesP_take _ k (by simpa using hlt), hri.out]
          simp
        have hNR : Hid (risesP ((l.map (·.path)).take (j + 1)) = false → risesP (l.map (·.path)) = false) := risesP_not
        have hle := fun w' => less_any (l[k]).path (l[j]).path w' (HP.out _ (List.getElem_mem hkl)).1 (HP.out _ (List.getElem_mem hlt)).1
        generalize l[j].path = y at *
        generalize l[k].path = z at *
        clear hk hwr hrw hri
        generalize lessF z y = LF at *
        go_wp2
        go_quiet ((go_at_call 14; exact Calls.quiet_of (hle _)))
        cases LF
        · have hR : Hid (F = ([], 18)) := by
            show _ = _
            rw [HR.out, if_neg]
            rw [hNR.out hRT.out]; decide
          clear hRT hNR HR hNX
          go_wp2
          go_ret2
          exact ⟨.slice none 0 0, by rw [hR.out] <;> rfl, by rw [hR.out]; exact BRd.nil _, hbF.out nq⟩
        · have hri2 : Hid (risesP ((l.map (·.path)).take (j + 1)) = true) := hRT
          have hnx := Lib.hid (hNX.out nq)
          clear hRT hNR hNX hbF
          go_wp2
          first
            | exact ⟨⟨j + 1, by omega, by omega, (by first | rfl | go_num | (congr 1; omega)), hri2, hnx⟩, by simp [intOf] <;> omega⟩
            | (refine ⟨?_, by simp [intOf] <;> omega⟩; (repeat apply Exists.intro); exact ⟨⟨j + 1, by omega, by omega, (by first | rfl | go_num | (congr 1; omega)), hri2, hnx⟩, rfl⟩)
      · have hR : Hid (F = (strB l, 0)) := by
          show _ = _
          have h := hri.out
          rw [List.take_of_length_le (by simp; omega)] at h
          rw [HR.out, if_pos h]
        have hbF : Below w.heap.size w wr := by rw [hwr]; exact Below.drewN HB.out _
        have hbr := Lib.hid ((own_brd HO.out).below (w' := wr) (by rw [hwr]; exact Below.drewN (Below.refl _ _) _))
        have j1 : ¬ (j : Int) < (l.length : Int) := by omega
        clear hri HR hwr
        go_wp2
        go_ret2
        exact ⟨_, by rw [hR.out] <;> rfl, by rw [hR.out]; exact hbr.out, hbF⟩
end Go.Proofs.YtpchogicdnfggaaGreatDoor
set_option maxRecDepth 20000
namespace Go.Proofs.YtpchogicdnfggaaGreatDoor
open Go.RowKit Go.Hd
section
variable (ρ : Operand → Value) (dst : Option Tmp) (ty : TypeId) (pos : String) (after : Array Edge) (guard : Option (Nat × Bool))
theorem h_bsIT (n : Nat) (parts : Array (Nat × Operand)) : execOp ρ { dst, op := .buildSlice 25 n parts, type := ty, pos, after, guard } = (do pure (.value (← bsOp 25 n (parts.map fun (i, x) => (i, ρ x))))) := rfl
theorem h_bdIT (parts : Array (Nat × Operand)) : execOp ρ { dst, op := .build 40 parts, type := ty, pos, after, guard } = (do pure (.value (← bdOp 40 (parts.map fun (i, x) => (i, ρ x))))) := rfl
end
theorem r_bsIT {w : World} {cs : Array Value} (hs : cs.size = 7) : (bsOp 25 1 #[(0, .agg cs)]).run Tryz.prog w = .ok (.slice (some ⟨w.heap.size, 0, none⟩) 1 1) (w.alloc (.cells cs 40)) :=
  bsOp_one Tryz.underlying25 infoIT (by decide) (by decide) (by exact zIT_size) hs
def it0 : Itm := ⟨[97], 2, 0, 0, [], 0, []⟩
theorem it0_stream : (streamF [it0]).2 = 0 ∧ 8 < (streamF [it0]).1.length := by decide +kernel
theorem it0_kind : (itV it0).kind = 7 := by decide +kernel
theorem it0_ok : ItmOk it0 := ⟨by unfold in64; decide, by unfold in64; decide, by unfold in64; decide, by unfold in64; decide, by decide, by decide, by intro p h; cases h⟩
theorem bd_it0 {w : World} : (bdOp 40 #[(0, .string ⟨#[97]⟩), (1, .int .i64 2)]).run Tryz.prog w = .ok (.agg (List.toArray (itC it0 none 0))) w := by
  refine run_build w _ _ _ ?_
  rw [built_struct Tryz.underlying40 zeroIT (places := [(0, 1), (1, 1), (2, 1), (3, 1), (4, 1), (5, 1), (6, 1)]) (by kernel_rfl)]
  have hz : zIT.toList = [.string .empty, .int .i64 0, .int .i64 0, .int .i64 0, .string .empty, .int .i64 0, .slice none 0 0] := rfl
  have hzs := zIT_size
  rw [fill_cons (off := 0) (size := 1) (by rfl) rfl (by simp [Value.cells, hzs]), fill_cons (off := 1) (size := 1) (by rfl) rfl (by simp [Value.cells, hzs]), fill_nil]
  congr 2
theorem fieldV0 {a1 a2 a3 a4 a5 : Value} {n : Int} {w : World} : (Instr.field 50 (.agg #[.int .i64 n, a1, a2, a3, a4, a5]) 0).run Tryz.prog w = .ok (.int .i64 n) w := by
  unfold Instr.field
  have hu := Tryz.underlying50
  simp [Sem.run_bind, Go.underlying, Go.Sem.run_pure, hu, asAgg, part]
theorem vat_kind {w : World} {cs : List Value} {v : PV} (h : VAt w cs v) : ∃ u1 u2 u3 u4 u5, cs = [.int .i64 v.kind, u1, u2, u3, u4, u5] := by
  cases h
  exact ⟨_, _, _, _, _, rfl⟩
attribute [local go_sem ↓] h_ldIT h_stIT h_alIT h_bsIT h_bdIT
attribute [local go_sem] r_ldIT r_stIT r_alIT r_bsIT fieldV0
set_option maxHeartbeats 2000000 in
theorem lives21_any (w : World) : Calls Tryz.prog 10 #[] w fun e w' => e = .returned (.bool true) ∧ Below w.heap.size w w' := by
  have hb0 : Below w.heap.size w (w.alloc (.cells (List.toArray (itC it0 none 0)) 40)) := (Below.refl _ _).alloc (Nat.le_refl _) _
  have hrow : Row (w.alloc (.cells (List.toArray (itC it0 none 0)) 40)) (some ⟨w.heap.size, 0, none⟩) [itC it0 none 0].flatten := by
    have := (Blk.new w 40 (List.toArray (itC it0 none 0))).row
    simpa using this
  have hIA : ∀ w, ItAt w (itC it0 none 0) it0 := fun w => ⟨none, 0, rfl, Nat.le_refl _, Nat.zero_le _, Row.nil _ _, it0_ok⟩
  have hI : ItsAt (w.alloc (.cells (List.toArray (itC it0 none 0)) 40)) (some ⟨w.heap.size, 0, none⟩) [it0] := ⟨[itC it0 none 0], rfl, hrow, by intro c hc; simp at hc; subst hc; rfl, fun i c x hc hx => by
    match i with
    | 0 => simp at hc hx; subst hc hx; exact hIA _
    | i + 1 => simp at hc⟩
  have hst := stream_any (n := 1) (c := 1) rfl hI (by intro x hx; simp at hx; subst hx; exact ⟨by decide, by decide⟩) (by decide)
  have hv := fun w => ivalue_any (x := it0) (a := none) (c := 0) (w := w) (Row.nil _ _) it0_ok (by decide) (by decide)
  have hbd := fun {w : World} => bd_it0 (w := w)
  rw [it0_stream.1] at hst
  have h8 := it0_stream.2
  have hk7 := it0_kind
  generalize streamF [it0] = F at *
  generalize itV it0 = v at *
  have h7 : (List.toArray (itC it0 none 0)).size = 7 := rfl
  clear hI hIA hrow
  generalize itC it0 none 0 = X at *
  have i8 : (8 : Int) < (F.1.length : Int) := by omega
  go_enter Tryz.func10, Tryz.ntmps10
  go_wp2_with fail
  refine hst.mono ?_
  rintro e w1 ⟨u, rfl, ⟨a, c, rfl, hc1, hc2, hr⟩, hb1⟩
  go_wp2_with fail
  refine (hv _).mono ?_
  rintro e w2 ⟨cs, rfl, hV, hb2⟩
  obtain ⟨u1, u2, u3, u4, u5, rfl⟩ := vat_kind hV.at
  rw [hk7]
  go_wp2
  go_ret
  exact ⟨rfl, hb0.trans ((Gr.trans hb1 hb2).mono hb0.size)⟩
end Go.Proofs.YtpchogicdnfggaaGreatDoor
set_option maxRecDepth 20000
namespace Go.Proofs.YtpchogicdnfggaaGreatDoor
open Go.RowKit Go.Hd
theorem mapMS {α β : Type} {f : α → Option β} : ∀ (l : List α), (∀ x ∈ l, ∃ y, f x = some y) → ∃ r, l.mapM f = some r
  | [], _ => ⟨[], by simp⟩
  | x :: l, h => by
    obtain ⟨y, hy⟩ := h x (by simp)
    obtain ⟨r, hr⟩ := mapMS l (fun z hz => h z (by simp [hz]))
    exact ⟨y :: r, by simp [hy, hr]⟩
theorem klS_int {t : TypeId} {q : IntKind} {n : Int} (hu : Tryz.prog.underlying t = some (.int q)) (hw : (Lit.int q n).wf = true) (d : Nat) : ∃ ls, Tryz.prog.keyLits (d + 1) t [.int q n] = some ls := by
  refine ⟨[.int q n], ?_⟩
  simp [Program.keyLits, hu, hw]
theorem klS_struct {t : TypeId} {fs : Array Field} {cs : List Value} {d : Nat} (hu : Tryz.prog.underlying t = some (.struct fs)) (hc : cs.length = Tryz.prog.cellsOf t) (hn : fs.all (·.name != "_") = true)
    (h : ∀ f ∈ fs.toList, ∃ ls, Tryz.prog.keyLits d f.type ((cs.drop f.offset).take (Tryz.prog.cellsOf f.type)) = some ls) : ∃ ls, Tryz.prog.keyLits (d + 1) t cs = some ls := by
  obtain ⟨r, hr⟩ := mapMS _ h
  refine ⟨r.flatten, ?_⟩
  simp only [Program.keyLits, hu]
  rw [if_pos ⟨hc, hn⟩, hr]
  rfl
theorem klS_array {t e : TypeId} {n : Nat} {cs : List Value} {d : Nat} (hu : Tryz.prog.underlying t = some (.array n e)) (hc : cs.length = Tryz.prog.cellsOf t)
    (h : ∀ i, i < n → ∃ ls, Tryz.prog.keyLits d e ((cs.drop (i * Tryz.prog.cellsOf e)).take (Tryz.prog.cellsOf e)) = some ls) : ∃ ls, Tryz.prog.keyLits (d + 1) t cs = some ls := by
  obtain ⟨r, hr⟩ := mapMS (List.range n) (fun i hi => h i (List.mem_range.1 hi))
  refine ⟨r.flatten, ?_⟩
  simp only [Program.keyLits, hu]
  rw [if_pos hc, hr]
  rfl
theorem u8wfS (x : UInt8) : (Lit.int .u8 (x.toNat : Int)).wf = true := by
  have := x.toNat_lt
  simp only [Lit.wf, Bool.and_eq_true, decide_eq_true_eq, IntKind.min, IntKind.max]
  constructor <;> simp [IntKind.signed, IntKind.bits] <;> omega
theorem i64wfS {n : Int} (h : in64 n) : (Lit.int .i64 n).wf = true := by
  unfold in64 at h
  simp only [Lit.wf, Bool.and_eq_true, decide_eq_true_eq, IntKind.min, IntKind.max]
  constructor <;> simp [IntKind.signed, IntKind.bits] <;> omega
theorem klS_id {l : List UInt8} (h : l.length = 32) : ∃ ls, Tryz.prog.keyLits 3 75 (l.map b8) = some ls := by
  have hb : Tryz.prog.cellsOf 5 = 1 := by kernel_rfl
  have hi : Tryz.prog.cellsOf 75 = 32 := by kernel_rfl
  refine klS_array Tryz.underlying75 (by rw [hi, List.length_map, h]) (fun i hi => ?_)
  rw [hb, Nat.mul_one]
  have e : ((l.map b8).drop i).take 1 = [.int .u8 (l[i]'(by omega)).toNat] := by
    rw [List.drop_eq_getElem_cons (by simp; omega)]
    simp [b8]
  rw [e]
  exact klS_int Tryz.underlying5 (u8wfS _) _
theorem klS_PA {p : Prt} (h : PrtOk p) : ∃ ls, Tryz.prog.keyLits 4 77 (prtC p) = some ls := by
  have c1 : Tryz.prog.cellsOf 75 = 32 := by kernel_rfl
  have c3 : Tryz.prog.cellsOf 3 = 1 := by kernel_rfl
  refine klS_struct Tryz.underlying77 (by rw [show Tryz.prog.cellsOf 77 = 33 by kernel_rfl, prtC_len h]) (by kernel_rfl) (fun f hf => ?_)
  have hi : (p.id.map b8).length = 32 := by rw [List.length_map, h.id]
  simp only [List.mem_cons, List.not_mem_nil, or_false] at hf
  rcases hf with rfl | rfl
  · rw [c1]
    show ∃ ls, Tryz.prog.keyLits 3 75 (((prtC p).drop 0).take 32) = some ls
    rw [List.drop_zero, show (prtC p).take 32 = p.id.map b8 from List.take_left' hi]
    exact klS_id h.id
  · rw [c3]
    show ∃ ls, Tryz.prog.keyLits 3 3 (((prtC p).drop 32).take 1) = some ls
    rw [show (prtC p).drop 32 = [.int .i64 p.size] from List.drop_left' hi]
    exact klS_int Tryz.underlying3 (i64wfS h.size) _
theorem nq_PA {p : Prt} (h : PrtOk p) (x y : Operand) (w : World) : (nqOp 77 x y (.agg (List.toArray (prtC p))) (.agg (List.toArray (prtC p)))).run Tryz.prog w = .ok (.bool false) w := by
  obtain ⟨ls, hl⟩ := klS_PA h
  have hf : (Value.agg (List.toArray (prtC p))).formed Tryz.prog 77 = true := by
    have hc : Tryz.prog.cellsOf 77 = 33 := by kernel_rfl
    simp [Value.formed, Tryz.underlying77, hc, prtC_len h]
  obtain ⟨q, h1, h2⟩ := nqOp_agg (P := Tryz.prog) (m := 4) (x := x) (y := y) (w := w) (by decide) (by kernel_rfl) (by kernel_rfl) hf hf hl hl
  rw [h1, h2.2 rfl]; rfl
attribute [local go_sem ↓] h_ldPA h_nqPA h_ldIT h_stIT h_alIT
attribute [local go_sem] r_ldIT r_stIT r_alIT
set_option maxHeartbeats 1000000 in
theorem sameParts_any {a b : Option Addr} {n1 n2 c d : Nat} {l : List Prt} {w : World} (h1 : n1 = l.length) (h2 : n2 = l.length) (hl : Row w a (l.map prtC).flatten) (hm : Row w b (l.map prtC).flatten) (ho : ∀ r ∈ l, PrtOk r) (hc : l.length ≤ 65536) :
    Calls Tryz.prog 38 #[.slice a n1 c, .slice b n2 d] w fun e w' => e = .returned (.bool true) ∧ ∃ n, w' = w.drewN n := by
  subst h1 h2
  have hall := prts33I ho
  go_enter Tryz.func38, Tryz.ntmps38
  go_wp2
  go_loopw [5] (fun i w' => ∃ k : Nat, k ≤ l.length ∧ i = .int .i64 k ∧ ∃ n, w' = w.drewN n) (fun i _ => l.length - (intOf i).toNat)
  case atStart => exact ⟨0, Nat.zero_le _, rfl, 0, rfl⟩
  case round =>
    obtain ⟨k, hk, rfl, n, rfl⟩ := hrel
    by_cases hlt : k < l.length
    · have hpo := ho l[k] (List.getElem_mem hlt)
      have q1 : ∀ m, (ldOp 77 (.pointer (some ((hd a).add (k * 33))))).run Tryz.prog (w.drewN m) = .ok (.agg (List.toArray (prtC l[k]))) (w.drewN m) := fun m => ldOp_at (P := Tryz.prog) (ty := 77) ((hl.drewN m).elem (s := 33) hall (i := k) (c := prtC l[k]) (by simp [hlt])) Tryz.underlying77 rfl (by rw [prtC_len hpo]; exact sizePA)
      have q2 : ∀ m, (ldOp 77 (.pointer (some ((hd b).add (k * 33))))).run Tryz.prog (w.drewN m) = .ok (.agg (List.toArray (prtC l[k]))) (w.drewN m) := fun m => ldOp_at (P := Tryz.prog) (ty := 77) ((hm.drewN m).elem (s := 33) hall (i := k) (c := prtC l[k]) (by simp [hlt])) Tryz.underlying77 rfl (by rw [prtC_len hpo]; exact sizePA)
      have s1 := hl.elemSome (s := 33) hall (by decide) (i := k) (by simpa using hlt)
      have s2 := hm.elemSome (s := 33) hall (by decide) (i := k) (by simpa using hlt)
      have q3 := fun x y w' => nq_PA hpo x y w'
      have i0 : (0 : Int) ≤ (k : Int) := by omega
      have i1 : (k : Int) < (l.length : Int) := by omega
      generalize prtC l[k] = E at *
      go_wp2
      go_quiet (fail)
      go_wp2
      first
        | exact ⟨⟨k + 1, by omega, (by first | rfl | go_num | (congr 1; omega)), n + nq, by first | rfl | rw [drewN_two]⟩, by simp [intOf] <;> omega⟩
        | (refine ⟨?_, by simp [intOf] <;> omega⟩; (repeat apply Exists.intro); exact ⟨⟨k + 1, by omega, (by first | rfl | go_num | (congr 1; omega)), n + nq, by first | rfl | rw [drewN_two]⟩, rfl⟩)
    · obtain rfl : k = l.length := by omega
      go_wp2
      go_ret
      exact ⟨rfl, n, rfl⟩
set_option maxHeartbeats 2000000 in
theorem sameI_any {x : Itm} {cs ds : List Value} {w : World} (h1 : ItAt w cs x) (h2 : ItAt w ds x) (hl : x.parts.length ≤ 65536) : Calls Tryz.prog 20 #[.agg (List.toArray cs), .agg (List.toArray ds)] w fun e w' => e = .returned (.bool true) ∧ Below w.heap.size w w' := by
  obtain ⟨a, c, rfl, p1, p2, hr1, hok⟩ := h1
  obtain ⟨b, d, rfl, p3, p4, hr2, _⟩ := h2
  have hb : Below w.heap.size w ((w.alloc (.cells (List.toArray (itC x a c)) 40)).alloc (.cells (List.toArray (itC x b d)) 40)) := ((Below.refl _ _).alloc (Nat.le_refl _) _).alloc (by simp) _
  have hB := (Blk.new w 40 (List.toArray (itC x a c))).alloc (.cells (List.toArray (itC x b d)) 40)
  have hB2 := Blk.new (w.alloc (.cells (List.toArray (itC x a c)) 40)) 40 (List.toArray (itC x b d))
  have hsp := (sameParts_any (c := c) (d := d) rfl rfl (hr1.below hb) (hr2.below hb) hok.parts hl).mono (fun e w' h => (⟨h.1, by obtain ⟨n, hn⟩ := h.2; rw [hn]; exact Below.drewN hb n⟩ : e = Ending.returned (.bool true) ∧ Below w.heap.size w w'))
  unfold itC strV at *
  go_enter Tryz.func20, Tryz.ntmps20
  go_wp2_with fail
  refine hsp.mono ?_
  rintro e w1 ⟨rfl, hb1⟩
  go_wp2
  go_ret
  exact ⟨rfl, hb1⟩
set_option maxHeartbeats 2000000 in
theorem sameIs_any {a b : Option Addr} {n1 n2 c d : Nat} {l : List Itm} {w : World} (h1 : n1 = l.length) (h2 : n2 = l.length) (hA : ItsAt w a l) (hB : ItsAt w b l) (hl : ∀ x ∈ l, x.parts.length ≤ 65536) (hc : l.length ≤ 65536) :
    Calls Tryz.prog 8 #[.slice a n1 c, .slice b n2 d] w fun e w' => e = .returned (.bool true) ∧ Below w.heap.size w w' := by
  subst h1 h2
  have HA := Lib.hid hA
  have HB := Lib.hid hB
  have HL := Lib.hid hl
  clear hA hB hl
  go_enter Tryz.func8, Tryz.ntmps8
  go_wp2
  go_loopw [5] (fun i wr => ∃ k : Nat, k ≤ l.length ∧ i = .int .i64 k ∧ Hid (Below w.heap.size w wr)) (fun i _ => l.length - (intOf i).toNat)
  case atStart => exact ⟨0, Nat.zero_le _, rfl, Lib.hid (Below.refl _ _)⟩
  case round =>
    obtain ⟨k, hk, rfl, hb⟩ := hrel
    have kb : IntKind.i64.wrap ((k : Int) + 1) = (k : Int) + 1 := IntWalk.i64_in _ (by omega)
    by_cases hlt : k < l.length
    · obtain ⟨cs, c7, hI1, s1, hc1⟩ := ((HA.out.below hb.out).below (Below.drewN (Below.refl _ _) 1)).get hlt
      obtain ⟨ds, d7, hI2, s2, hc2⟩ := ((HB.out.below hb.out).below (Below.drewN (Below.refl _ _) 1)).get hlt
      have q1 := ldOp_at (P := Tryz.prog) (ty := 40) (cs := cs) hc1 Tryz.underlying40 rfl (by rw [c7]; exact sizeIT)
      have q2 := ldOp_at (P := Tryz.prog) (ty := 40) (cs := ds) hc2 Tryz.underlying40 rfl (by rw [d7]; exact sizeIT)
      have hs := sameI_any hI1 hI2 (HL.out _ (List.getElem_mem hlt))
      have i0 : (0 : Int) ≤ (k : Int) := by omega
      have i1 : (k : Int) < (l.length : Int) := by omega
      have hbW := Lib.hid (Below.drewN hb.out 1)
      clear hI1 hI2 hc1 hc2 hb
      go_wp2
      refine wp_region_still_tail 8 (by kernel_rfl) (by kernel_rfl) ?_
      simp only [List.take_succ_cons, List.take_zero, List.drop_succ_cons, List.drop_zero]
      change wpStill _ _ (wr.drewN 1) _ _ _
      repeat still_step
      try refine wpStill_nil ?_
      change wpList _ _ _ _ _ (wr.drewN 1)
      go_wp2_with fail
      refine hs.mono ?_
      rintro e w5 ⟨rfl, hb5⟩
      have hb6 := Lib.hid (hbW.out.trans (hb5.mono hbW.out.size))
      clear hbW hb5 hs q1 q2
      go_wp2
      first
        | exact ⟨⟨k + 1, by omega, (by first | rfl | go_num | (congr 1; omega)), hb6⟩, by simp [intOf] <;> omega⟩
        | (refine ⟨?_, by simp [intOf] <;> omega⟩; (repeat apply Exists.intro); exact ⟨⟨k + 1, by omega, (by first | rfl | go_num | (congr 1; omega)), hb6⟩, rfl⟩)
    · obtain rfl : k = l.length := by omega
      go_wp2
      go_ret
      exact ⟨rfl, hb.out⟩
end Go.Proofs.YtpchogicdnfggaaGreatDoor
set_option maxRecDepth 20000
namespace Go.Proofs.YtpchogicdnfggaaGreatDoor
open Go.RowKit Go.Hd
/-- One element of s cells put behind a row of the call's own. -/
theorem own_appS {t ty e : TypeId} {z : Value} {s bytes : Nat} (E : Elem Tryz.prog t e z s bytes) (hs : 0 < s) {w : World} {base : Nat} {v : Value} {n : Nat} {xs : List Value} (hown : w.ownsRow base e s v n xs)
    (cs : List Value) (hc : cs.length = s) (h1 : ∀ u ∈ cs, u.oneCell' = true) (h63 : n + 1 ≤ maxLen) (hbytes : (n + 1) * bytes ≤ 140737488355328) (hbase : base ≤ w.heap.size) :
    ∃ a' c' w', (Builtin.append_ #[t, t] ty #[v, .slice (some ⟨w.heap.size, 0, none⟩) 1 1]).run Tryz.prog (w.alloc (.cells cs.toArray e)) = .ok (.slice a' (n + 1) c') w' ∧ w'.ownsRow base e s (.slice a' (n + 1) c') (n + 1) (xs ++ cs) ∧ Gro w w' v (.slice a' (n + 1) c') := by
  have hsrc : Src Tryz.prog s t (.slice (some ⟨w.heap.size, 0, none⟩) 1 1) 1 cs (w.alloc (.cells cs.toArray e)) :=
    Src.ofRow E.ht _ 1 1 cs hs (by simpa using hc) (by simpa using (Blk.new w e cs.toArray).row) h1
  obtain ⟨v', w', h1, h2, h3, h4⟩ := append_srcK (ty := ty) E (hown.alloc _) hsrc h63 hbytes (by simp; omega)
  obtain ⟨a', c', rfl, _⟩ := owns_rowN h2 hs
  have hb0 : Below w.heap.size w (w.alloc (.cells cs.toArray e)) := (Below.refl _ _).alloc (Nat.le_refl _) _
  exact ⟨a', c', w', h1, h2, (Gro.ofBelow hb0).trans ⟨h3, h4⟩⟩
theorem prtC_one (p : Prt) : ∀ u ∈ prtC p, u.oneCell' = true := by
  intro u hu
  rcases List.mem_append.1 hu with h | h
  · exact bytes_one _ _ h
  · simp at h; subst h; rfl
theorem Gro.blkB {w w' : World} {v u : Value} {q base : Nat} {T : TypeId} {xs : List Value} (h : Gro w w' v u) (hb : Blk w q T xs) (hv : ∀ k, v.ownBlock = some k → base ≤ k) (hq : q < base) : Blk w' q T xs :=
  (h.blk hb (fun e => by have := hv _ e; omega)).1
/-- An item's cells, its parts in blocks of this kind. -/
def ItP (ok : Nat → Prop) (w : World) (cs : List Value) (x : Itm) : Prop := ∃ a c, cs = itC x a c ∧ x.parts.length ≤ c ∧ c ≤ maxLen ∧ Row w a (x.parts.map prtC).flatten ∧ ItmOk x ∧ (0 < x.parts.length → ok (hd a).block)
theorem ItP.at {ok : Nat → Prop} {w : World} {cs : List Value} {x : Itm} (h : ItP ok w cs x) : ItAt w cs x := by
  obtain ⟨a, c, h1, h2, h3, h4, h5, _⟩ := h
  exact ⟨a, c, h1, h2, h3, h4, h5⟩
theorem ItP.below {ok : Nat → Prop} {w w' : World} {cs : List Value} {x : Itm} (h : ItP ok w cs x) (hb : Below w.heap.size w w') : ItP ok w' cs x := by
  obtain ⟨a, c, h1, h2, h3, h4, h5, h6⟩ := h
  exact ⟨a, c, h1, h2, h3, h4.below hb, h5, h6⟩
theorem ItP.mono {ok ok' : Nat → Prop} {w : World} {cs : List Value} {x : Itm} (h : ItP ok w cs x) (hk : ∀ b, ok b → b < w.heap.size → ok' b) : ItP ok' w cs x := by
  obtain ⟨a, c, h1, h2, h3, h4, h5, h6⟩ := h
  refine ⟨a, c, h1, h2, h3, h4, h5, fun h0 => hk _ (h6 h0) (h4.block_lt ?_)⟩
  rw [flatten_len (s := 33) (prts33I h5.parts), List.length_map]; omega
theorem ItP.kept {ok : Nat → Prop} {w w' : World} {cs : List Value} {x : Itm} {r : Option Nat} (h : ItP ok w cs x) (hg : w.grownBy w' r) (hr : ∀ b, ok b → r ≠ some b) : ItP ok w' cs x := by
  obtain ⟨a, c, h1, h2, h3, h4, h5, h6⟩ := h
  refine ⟨a, c, h1, h2, h3, h4.keptFar hg (fun h0 => hr _ (h6 ?_)), h5, h6⟩
  rw [flatten_len (s := 33) (prts33I h5.parts), List.length_map] at h0; omega
/-- Items in a row of the call's own. -/
def ItsO (base : Nat) (w : World) (v : Value) (l : List Itm) : Prop := ∃ css : List (List Value), css.length = l.length ∧ w.ownsRow base 40 7 v l.length css.flatten ∧ (∀ c ∈ css, c.length = 7) ∧ ∀ (i : Nat) (c : List Value) (x : Itm), css[i]? = some c → l[i]? = some x → ItP (fun b => base ≤ b ∧ v.ownBlock ≠ some b) w c x
theorem ItsO.nil (base : Nat) (w : World) : ItsO base w (.slice none 0 0) [] := ⟨[], rfl, World.ownsRow_nil _ _ _ _, by simp, by simp⟩
theorem ItsO.below {base : Nat} {w w' : World} {v : Value} {l : List Itm} (h : ItsO base w v l) (hb : Below w.heap.size w w') : ItsO base w' v l := by
  obtain ⟨css, h1, h2, h3, h4⟩ := h
  exact ⟨css, h1, ownsRow_below h2 hb, h3, fun i c x hc hx => (h4 i c x hc hx).below hb⟩
theorem ItsO.at {base : Nat} {w : World} {v : Value} {l : List Itm} (h : ItsO base w v l) : ∃ a c, v = .slice a l.length c ∧ l.length ≤ c ∧ c ≤ maxLen ∧ ItsAt w a l := by
  obtain ⟨css, h1, h2, h3, h4⟩ := h
  obtain ⟨a, c, rfl, k1, k2, k3, k4⟩ := owns_rowN h2 (by decide)
  exact ⟨a, c, rfl, k1, k2, css, h1, k3, h3, fun i c x hc hx => (h4 i c x hc hx).at⟩
theorem ItsO.lo {base : Nat} {w : World} {v : Value} {l : List Itm} (h : ItsO base w v l) : ∀ k, v.ownBlock = some k → base ≤ k ∧ k < w.heap.size := by
  obtain ⟨css, h1, h2, h3, h4⟩ := h
  exact fun k hk => ⟨own_lt h2 k hk, own_old h2 k hk⟩
theorem eIT7 : Elem Tryz.prog 25 40 (.agg zIT) 7 88 := eIT
theorem ItsO.app {base : Nat} {w : World} {v : Value} {l : List Itm} {ds : List Value} {x : Itm} (h : ItsO base w v l) (hx : ItP (fun b => base ≤ b ∧ v.ownBlock ≠ some b) w ds x) (hl : l.length ≤ 1000000) (hb : base ≤ w.heap.size) :
    ∃ a' c' w', (Builtin.append_ #[25, 25] 25 #[v, .slice (some ⟨w.heap.size, 0, none⟩) 1 1]).run Tryz.prog (w.alloc (.cells ds.toArray 40)) = .ok (.slice a' (l.length + 1) c') w' ∧ ItsO base w' (.slice a' (l.length + 1) c') (l ++ [x]) ∧ Gro w w' v (.slice a' (l.length + 1) c') := by
  obtain ⟨css, h1, h2, h3, h4⟩ := h
  obtain ⟨a', c', w', r1, r2, r3⟩ := own_appS (ty := 25) eIT7 (by decide) h2 ds hx.at.len hx.at.one (by unfold maxLen; omega) (by omega) hb
  have hup : ∀ {cs : List Value} {y : Itm}, ItP (fun b => base ≤ b ∧ v.ownBlock ≠ some b) w cs y → ItP (fun b => base ≤ b ∧ (Value.slice a' (l.length + 1) c').ownBlock ≠ some b) w' cs y := fun {cs y} hy =>
    (hy.mono (ok' := fun b => (base ≤ b ∧ (Value.slice a' (l.length + 1) c').ownBlock ≠ some b) ∧ v.ownBlock ≠ some b) (fun b hk hlt => ⟨⟨hk.1, fun e => by
      rcases r3.own b e with h | h
      · exact hk.2 h
      · omega⟩, hk.2⟩)).kept r3.gr (fun b hk => hk.2) |>.mono (fun b hk _ => hk.1)
  refine ⟨a', c', w', r1, ⟨css ++ [ds], by simp [h1], ?_, ?_, ?_⟩, r3⟩
  · rw [List.length_append, List.flatten_append]; simpa using r2
  · intro c hc
    rcases List.mem_append.1 hc with h | h
    · exact h3 c h
    · simp at h; subst h; exact hx.at.len
  · intro i c y hc hy
    by_cases hi : i < l.length
    · rw [List.getElem?_append_left (by omega)] at hc
      rw [List.getElem?_append_left hi] at hy
      exact hup (h4 i c y hc hy)
    · rw [List.getElem?_append_right (by omega)] at hc
      rw [List.getElem?_append_right (by omega)] at hy
      rw [h1] at hc
      match hk : i - l.length with
      | 0 => rw [hk] at hc hy; simp at hc hy; subst hc hy; exact hup hx
      | k + 1 => rw [hk] at hc; simp at hc
/-- The loop of Cut: j parts have been taken over. -/
def CutR (w : World) (x : Itm) (X : List Value) (j : Nat) (a' : Option Addr) (c' : Nat) (wr : World) : Prop :=
  Blk wr (w.heap.size + 1 + 1) 40 [.string (str (x.path.take 250)), .int .i64 x.kind, .int .i64 x.mode, .int .i64 x.time, .string (str (x.target.take 250)), .int .i64 x.size, .slice a' j c'] ∧ Blk wr w.heap.size 40 X ∧ Blk wr (w.heap.size + 1) 40 zIT.toList ∧ Below w.heap.size w wr ∧ wr.ownsRow (w.heap.size + 3) 77 33 (.slice a' j c') j ((x.parts.take j).map prtC).flatten ∧ w.heap.size + 3 ≤ wr.heap.size
theorem st_rowI {w : World} {q : Nat} {T : TypeId} {old : List Value} (h : Blk w q T old) (ho : old.length = 7) : ∀ cs : Array Value, cs.size = 7 → OneC cs → (stoOp 40 (.pointer (some ⟨q, 0, none⟩)) (.agg cs)).run Tryz.prog w = .ok () (w.setRow q cs) := by
  intro cs h6 h1
  unfold stoOp
  simp only [Instr.storeAt, Instr.sureAddr, Sem.run_bind, Sem.run_pure, Result.andThen]
  rw [run_storeVar_row w q T 40 old.toArray cs h (by rw [h6]; exact sizeIT) (by simp [ho, h6]) h1]
attribute [local go_sem ↓] h_ldPA h_bsPA h_ldIT h_stIT h_alIT
attribute [local go_sem] r_ldIT r_stIT r_alIT r_bsPA
end Go.Proofs.YtpchogicdnfggaaGreatDoor
