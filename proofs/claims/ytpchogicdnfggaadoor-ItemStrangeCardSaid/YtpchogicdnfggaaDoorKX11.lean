/- Joined: what one statement of this layer stands on, part 11 of 17; nothing is assumed. -/
import Derived.BigQuiet
import Derived.Deep.CutBlock
import Derived.Deep.DeepCutAuto
import Derived.Deep.RegionHeld3
import Derived.Deep.RegionLaw
import Derived.Laws.StructEq
import Derived.Test.YtpchogicdnfggaaDoorKX3
import Derived.Test.YtpchogicdnfggaaDoorKX5
import Derived.Test.YtpchogicdnfggaaDoorKX6
import Derived.Test.YtpchogicdnfggaaDoorKX10
set_option maxRecDepth 20000
namespace Go.Hd
theorem str_drop (l : List UInt8) (n : Nat) (m : Nat) (h : l.length ≤ m) : (str l).extract n m = str (l.drop n) := by
  rw [Lib.extract_eq, str_data, List.take_of_length_le (by simp; omega)]; rfl
theorem idx_no : ∀ (l : List UInt8) (c : UInt8), c ∉ l → Lib.indexByte l c = -1
  | [], _, _ => rfl
  | b :: l, c, h => by
    have hb : b ≠ c := fun e => h (by simp [e])
    unfold Lib.indexByte
    rw [if_neg (by simpa using hb), idx_no l c (fun e => h (List.mem_cons_of_mem _ e))]
    rfl
/-- A text, cut at its first '/'. -/
structure CutR (a x r : List UInt8) (more : Bool) : Prop where
  yes : more = true → cutP a = x :: cutP r ∧ r.length < a.length
  no : more = false → cutP a = [x]
end Go.Hd
namespace Go.Proofs.YtpchogicdnfggaaDoor
open Go.RowKit Go.Hd

theorem scut_any (a : List UInt8) (w : World) (ha : a.length ≤ 1000000) :
    Calls Tryd.prog 93 #[.string (str a), .string ⟨#[47]⟩] w fun e w' => (∃ x r more, e = .returned (.tuple #[.string (str x), .string (str r), .bool more]) ∧ CutR a x r more) ∧ ∃ n, w' = w.drewN n := by
  have hix := (Tryd.stringslite_Index_one (str a) 47 w)
  rw [str_data] at hix
  by_cases hm : (47 : UInt8) ∈ a
  · obtain ⟨p, s, rfl, hp⟩ := List.eq_append_cons_of_mem hm
    rw [idx_at p s 47 hp] at hix
    have hR : Hid (CutR (p ++ 47 :: s) p s true) := ⟨fun _ => ⟨cutP_app p s hp, by simp; omega⟩, (fun h => by cases h)⟩
    have hl : (p ++ 47 :: s).length = p.length + 1 + s.length := by simp; omega
    have hs : (str (p ++ 47 :: s)).size = (p ++ 47 :: s).length := str_size _
    have e1 : (str (p ++ 47 :: s)).extract 0 p.length = str p := by rw [str_take, List.take_left' rfl]
    have e2 : (str (p ++ 47 :: s)).extract (p.length + 1) (p ++ 47 :: s).length = str s := by
      rw [str_drop _ _ _ (Nat.le_refl _), show p ++ 47 :: s = (p ++ [47]) ++ s by simp, List.drop_left' (by simp)]
    have i0 : (0 : Int) ≤ (p.length : Int) := by omega
    have i1 : (p.length : Int) ≤ ((p ++ 47 :: s).length : Int) := by omega
    have i2 : (p.length : Int) + 1 ≤ ((p ++ 47 :: s).length : Int) := by omega
    have iw : IntKind.i64.wrap ((p.length : Int) + 1) = (p.length : Int) + 1 := IntWalk.i64_in _ (by omega)
    generalize p ++ 47 :: s = A at *
    clear hp hm hl
    go_enter Tryd.func93, Tryd.ntmps93
    go_wp2_with fail
    refine hix.mono ?_
    rintro e w1 ⟨rfl, rfl⟩
    go_wp2
    go_quiet (fail)
    go_wp2
    go_ret3
    exact ⟨⟨p, s, true, rfl, hR.out⟩, _, rfl⟩
  · rw [idx_no a 47 hm] at hix
    have hR : Hid (CutR a a [] false) := ⟨(fun h => by cases h), fun _ => cutP_one a hm⟩
    clear hm
    go_enter Tryd.func93, Tryd.ntmps93
    go_wp2_with fail
    refine hix.mono ?_
    rintro e w1 ⟨rfl, rfl⟩
    go_wp2
    go_ret3
    exact ⟨⟨a, [], false, rfl, hR.out⟩, 0, rfl⟩
theorem scut2_any (a : List UInt8) (w : World) (ha : a.length ≤ 1000000) :
    Calls Tryd.prog 70 #[.string (str a), .string ⟨#[47]⟩] w fun e w' => (∃ x r more, e = .returned (.tuple #[.string (str x), .string (str r), .bool more]) ∧ CutR a x r more) ∧ ∃ n, w' = w.drewN n := by
  have h := scut_any a w ha
  clear ha
  go_enter Tryd.func70, Tryd.ntmps70
  go_wp2_with fail
  refine h.mono ?_
  rintro e w1 ⟨⟨x, r, more, rfl, hc⟩, n, rfl⟩
  go_wp2
  go_ret3
  exact ⟨⟨x, r, more, rfl, hc⟩, n, rfl⟩
def strLen : Value → Nat
  | .string s => s.size
  | _ => 0
theorem strLen_str (l : List UInt8) : strLen (.string (str l)) = l.length := str_size l
theorem lessL_nil (a : List (List UInt8)) : lessL a [] = false := by cases a <;> rfl
theorem lessL_pos {a : List (List UInt8)} (h : a ≠ []) : lessL [] a = true := by
  cases a with
  | nil => exact absurd rfl h
  | cons x a => rfl
theorem lessL_cons (x y : List UInt8) (a b : List (List UInt8)) : lessL (x :: a) (y :: b) = if x = y then lessL a b else Op.bytesLess x y := by
  show (if x = y then lessL a b else Op.bytesLess x y) = _
  rfl
set_option maxHeartbeats 1000000 in
theorem less_any (a b : List UInt8) (w : World) (ha : a.length ≤ 1000000) (hb : b.length ≤ 1000000) :
    Calls Tryd.prog 42 #[.string (str a), .string (str b)] w fun e w' => e = .returned (.bool (lessF a b)) ∧ ∃ n, w' = w.drewN n := by
  go_enter Tryd.func42, Tryd.ntmps42
  go_wp2
  go_loopw [0, 1] (fun u v wr => ∃ (x y : List UInt8) (n : Nat), u = .string (str x) ∧ v = .string (str y) ∧ x.length ≤ a.length ∧ y.length ≤ b.length ∧ lessF a b = lessF x y ∧ Hid (wr = w.drewN n)) (fun u _ _ => strLen u)
  case atStart => exact ⟨a, b, 0, rfl, rfl, Nat.le_refl _, Nat.le_refl _, rfl, Lib.hid rfl⟩
  case round =>
    obtain ⟨x, y, n, rfl, rfl, hx, hy, hl, hw⟩ := hrel
    have hc1 := scut2_any x wr (by omega)
    have hc2 := fun w' => scut2_any y w' (by omega)
    have hL := Lib.hid hl
    clear hl
    go_wp2_with fail
    refine hc1.mono ?_
    rintro e w1 ⟨⟨p, r, more, rfl, hcr⟩, n1, rfl⟩
    go_wp2_with fail
    refine (hc2 _).mono ?_
    rintro e w1 ⟨⟨q, s, further, rfl, hcs⟩, n2, rfl⟩
    have HC := Lib.hid (And.intro hcr hcs)
    have hpq : Hid (((str p).toList = (str q).toList) ↔ p = q) := by show _ ↔ _; rw [str_toList, str_toList]
    have hbl : Hid (Op.bytesLess (str p).toList (str q).toList = Op.bytesLess p q) := by show _ = _; rw [str_toList, str_toList]
    have hww : Hid (wr.drewN (n1 + n2) = w.drewN (n + (n1 + n2))) := by show _ = _; rw [hw.out, drewN_two]
    clear hcr hcs hc1 hc2
    by_cases hp : p = q
    · subst hp
      clear hpq hbl
      cases more
      · have hF : Hid (lessF a b = further) := by
          show _ = _
          rw [hL.out]
          unfold lessF
          rw [HC.out.1.no rfl]
          cases further
          · rw [HC.out.2.no rfl, lessL_cons, if_pos rfl]; rfl
          · rw [(HC.out.2.yes rfl).1, lessL_cons, if_pos rfl]; exact lessL_pos (cutP_ne s)
        go_wp2
        go_ret
        exact ⟨by rw [hF.out]; rfl, _, hww.out⟩
      · cases further
        · have hF : Hid (lessF a b = false) := by
            show _ = _
            rw [hL.out]
            unfold lessF
            rw [(HC.out.1.yes rfl).1, HC.out.2.no rfl, lessL_cons, if_pos rfl]; exact lessL_nil _
          go_wp2
          go_ret
          exact ⟨by rw [hF.out]; rfl, _, hww.out⟩
        · have hF : Hid (lessF a b = lessF r s) := by
            show _ = _
            rw [hL.out]
            unfold lessF
            rw [(HC.out.1.yes rfl).1, (HC.out.2.yes rfl).1, lessL_cons, if_pos rfl]
          have h1 := (HC.out.1.yes rfl).2
          have h2 := (HC.out.2.yes rfl).2
          have hm1 : strLen (.string (str r)) < strLen (.string (str x)) := by rw [strLen_str, strLen_str]; exact h1
          go_wp2
          first
            | exact ⟨⟨r, s, _, rfl, rfl, by omega, by omega, hF.out, hww⟩, hm1⟩
            | (refine ⟨?_, hm1⟩; (repeat apply Exists.intro); exact ⟨⟨r, s, _, rfl, rfl, by omega, by omega, hF.out, hww⟩, rfl⟩)
    · have t1 : ((str p).toList == (str q).toList) = false := by rw [beq_eq_false_iff_ne]; exact fun h => hp (hpq.out.1 h)
      have hF : Hid (lessF a b = Op.bytesLess p q) := by
        show _ = _
        rw [hL.out]
        have hx1 : ∃ A, cutP x = p :: A := by
          cases more
          · exact ⟨[], HC.out.1.no rfl⟩
          · exact ⟨_, (HC.out.1.yes rfl).1⟩
        have hy1 : ∃ B, cutP y = q :: B := by
          cases further
          · exact ⟨[], HC.out.2.no rfl⟩
          · exact ⟨_, (HC.out.2.yes rfl).1⟩
        obtain ⟨A, hA⟩ := hx1
        obtain ⟨B, hB⟩ := hy1
        unfold lessF
        rw [hA, hB, lessL_cons, if_neg hp]
      clear hp hpq
      go_wp2
      go_ret
      exact ⟨by rw [hF.out, ← hbl.out]; rfl, _, hww.out⟩
end Go.Proofs.YtpchogicdnfggaaDoor
set_option maxRecDepth 20000
namespace Go.Proofs.YtpchogicdnfggaaDoor
open Go.RowKit Go.Hd
attribute [local go_sem ↓] h_ldV h_stV h_alV
attribute [local go_sem] r_ldV r_stV r_alV

theorem WrO.someO {B g : Nat} {w : World} {l : List UInt8} (h : WrO B w g (Option.some l)) : ∃ a c, w.cell? ⟨g, 0, none⟩ = Option.some (.slice a l.length c) ∧ w.cell? ⟨g, 1, none⟩ = Option.some (.bool false) ∧ l.length ≤ c ∧ c ≤ maxLen ∧ Row w a (l.map b8) ∧ (0 < l.length → B ≤ (hd a).block) := by
  obtain ⟨⟨l', f⟩, ⟨v, hB, _⟩, ha⟩ := h
  cases f with
  | true => cases ha
  | false =>
    obtain rfl : l' = l := by simpa [absW] using ha
    obtain ⟨a, c, rfl, hc, hm, hr, ho⟩ := owns_at hB.own
    exact ⟨a, c, hB.blk.cell rfl, hB.blk.cell rfl, hc, hm, hr, fun h => (ho (by simpa using h)).1⟩
/-- Bytes in memory of the call's own. -/
def BRn (base : Nat) (w : World) (v : Value) (l : List UInt8) : Prop := ∃ a c, v = .slice a l.length c ∧ l.length ≤ c ∧ c ≤ maxLen ∧ Row w a (l.map b8) ∧ (0 < l.length → base ≤ (hd a).block)
theorem BRn.nil (base : Nat) (w : World) : BRn base w (.slice none 0 0) [] := ⟨none, 0, rfl, Nat.le_refl _, Nat.zero_le _, Row.nil _ _, fun h => absurd h (Nat.lt_irrefl _)⟩
set_option maxHeartbeats 1000000 in
theorem enc_own {w0 w : World} {cs : List Value} {v : PV} (h : VAt w0 cs v) (hbw : Below w0.heap.size w0 w) :
    Calls Tryd.prog 40 #[.agg cs.toArray] w fun e w' => ∃ u, e = .returned (.tuple #[u, .int .i64 (encF v).2]) ∧ BRn w.heap.size w' u (encF v).1 ∧ Below w.heap.size w w' := by
  have hsz := hbw.size
  have hb0 : Below w.heap.size w (w.alloc (.cells cs.toArray 30)) := (Below.refl _ _).alloc (Nat.le_refl _) _
  have B0 : Blk (w.alloc (.cells cs.toArray 30)) w.heap.size 30 cs.toArray.toList := Blk.new _ _ _
  have x6 : cs.toArray.size = 6 := by simpa using h.len
  have hcan := can_any h 16 (w.alloc (.cells cs.toArray 30)) (by decide) (hbw.trans (hb0.mono hsz))
  go_enter Tryd.func40, Tryd.ntmps40
  go_wp2_with fail
  refine hcan.mono ?_
  rintro e w1 ⟨rfl, hb1⟩
  have B1 := B0.below hb1
  have hbw1 : Below w.heap.size w w1 := Gr.trans hb0 hb1
  cases hc : canF 16 v with
  | false =>
    have HE : Hid (encF v = ([], 4)) := by show _ = _; unfold encF; rw [if_pos hc]
    clear hc hcan
    go_wp2
    go_ret2
    rw [HE.out]
    exact ⟨_, rfl, BRn.nil _ _, hbw1⟩
  | true =>
    have hn := WrO.new w1
    have hb2 : Below w1.heap.size w1 (w1.alloc (.cells #[.slice none 0 0, .bool false] 105)) := (Below.refl _ _).alloc (Nat.le_refl _) _
    have q2 : (ldOp 30 (.pointer (some ⟨w.heap.size, 0, none⟩))).run Tryd.prog (w1.alloc (.cells #[.slice none 0 0, .bool false] 105)) = .ok (.agg cs.toArray) (w1.alloc (.cells #[.slice none 0 0, .bool false] 105)) := by
      have := ldOp_all (P := Tryd.prog) (ty := 30) (B1.below hb2) Tryd.underlying30 rfl (by rw [Array.length_toList, x6]; exact sizeV)
      simpa using this
    have hbw2 := hbw1.trans (hb2.mono hbw1.size)
    have hv := value_any h 16 _ _ _ _ hc (hbw.trans (hbw2.mono hsz)) (by have := hbw1.size; omega) hn
    have hce := hc
    clear hc hcan
    go_wp2_with fail
    refine hv.mono ?_
    rintro e w3 ⟨rfl, hw3, hk3⟩
    have hb3 : Below w.heap.size w w3 := hbw2.trans (Kp.past hk3.kp hbw1.size hn.lt)
    cases ho : encO 16 (some []) v with
    | none =>
      rw [ho] at hw3
      have c1 := hw3.none'
      have HE : Hid (encF v = ([], 5)) := by show _ = _; unfold encF; rw [if_neg (by rw [hce]; decide), ho]
      clear ho hce hv hn hw3
      go_wp2
      go_ret2
      rw [HE.out]
      exact ⟨_, rfl, BRn.nil _ _, hb3⟩
    | some l =>
      rw [ho] at hw3
      obtain ⟨a, c, c0, c1, hlc, hcm, hrow, hfr⟩ := hw3.someO
      have hs1 := hbw1.size
      have HE : Hid (encF v = (l, 0)) := by show _ = _; unfold encF; rw [if_neg (by rw [hce]; decide), ho]
      clear ho hce hv hn hw3
      go_wp2
      go_ret2
      rw [HE.out]
      exact ⟨_, rfl, ⟨a, c, rfl, hlc, hcm, hrow, fun h => by have := hfr h; omega⟩, hb3⟩
end Go.Proofs.YtpchogicdnfggaaDoor
set_option maxRecDepth 20000
namespace Go.Proofs.YtpchogicdnfggaaDoor
open Go.RowKit Go.Hd
def recB (x : Itm) : List UInt8 := (putL (encF (itV x)).1.length 4).reverse ++ (encF (itV x)).1
def strB (l : List Itm) : List UInt8 := (l.map recB).flatten
def strE : List Itm → Int
  | [] => 0
  | x :: l => if checkI x ≠ 0 then checkI x else if (encF (itV x)).2 ≠ 0 then (encF (itV x)).2 else strE l
/-- Rising, as paths go. -/
def risesP : List (List UInt8) → Bool
  | a :: b :: l => lessF a b && risesP (b :: l)
  | _ => true
theorem risesP_snoc : ∀ (l : List (List UInt8)) (r s : List UInt8), risesP (l ++ [r, s]) = (risesP (l ++ [r]) && lessF r s)
  | [], r, s => by simp [risesP]
  | [x], r, s => by simp [risesP]
  | x :: y :: l, r, s => by
    have := risesP_snoc (y :: l) r s
    simp only [List.cons_append, risesP] at this ⊢
    rw [this, Bool.and_assoc]
theorem risesP_take (l : List (List UInt8)) (i : Nat) (h : i + 1 < l.length) : risesP (l.take (i + 2)) = (risesP (l.take (i + 1)) && lessF l[i] l[i + 1]) := by
  rw [List.take_succ_eq_append_getElem h, List.take_succ_eq_append_getElem (by omega : i < l.length), List.append_assoc]
  exact risesP_snoc _ _ _
theorem risesP_one (l : List (List UInt8)) : risesP (l.take 1) = true := by
  match l with
  | [] => rfl
  | x :: l => rfl
theorem risesP_of (l : List (List UInt8)) (n : Nat) (h : risesP l = true) : risesP (l.take n) = true := by
  induction l generalizing n with
  | nil => simp [risesP]
  | cons r l ih =>
    match n, l with
    | 0, _ => rfl
    | 1, _ => simp [risesP]
    | n + 2, [] => simp [risesP]
    | n + 2, s :: l =>
      simp only [risesP, Bool.and_eq_true] at h
      have := ih (n + 1) h.2
      simp only [List.take_succ_cons, risesP, h.1, Bool.true_and] at this ⊢
      exact this
theorem risesP_not {ks : List (List UInt8)} {j : Nat} (h : risesP (ks.take j) = false) : risesP ks = false := by
  rcases Bool.eq_false_or_eq_true (risesP ks) with h2 | h2
  · rw [risesP_of ks j h2] at h; cases h
  · exact h2
/-- The bytes that items are, or why none. -/
def streamF (l : List Itm) : List UInt8 × Int := if 100 < l.length then ([], 16) else if strE l ≠ 0 then ([], strE l) else if risesP (l.map (·.path)) = true then (strB l, 0) else ([], 18)
theorem encF_small (v : PV) : (encF v).1.length ≤ 65536 := by
  unfold encF
  split
  · simp
  · cases h : encO 16 (some []) v with
    | none => simp
    | some x => exact enc_len 16 v [] x (by decide) h
theorem recB_len (x : Itm) : (recB x).length = 4 + (encF (itV x)).1.length := by unfold recB; simp [putL_length]
theorem strB_snoc (l : List Itm) (x : Itm) : strB (l ++ [x]) = strB l ++ recB x := by unfold strB; simp
theorem strB_len : ∀ l : List Itm, (strB l).length ≤ 65540 * l.length
  | [] => by simp [strB]
  | x :: l => by
    have ih := strB_len l
    have h := recB_len x
    have h2 := encF_small (itV x)
    unfold strB at *
    simp only [List.map_cons, List.flatten_cons, List.length_append, List.length_cons]
    omega
theorem addr_add0 (x : Addr) : x.add 0 = x := by unfold Addr.add; simp
/-- An item's cells in this memory. -/
def ItAt (w : World) (cs : List Value) (x : Itm) : Prop := ∃ a c, cs = itC x a c ∧ x.parts.length ≤ c ∧ c ≤ maxLen ∧ Row w a (x.parts.map prtC).flatten ∧ ItmOk x
theorem ItAt.below {w w' : World} {cs : List Value} {x : Itm} (h : ItAt w cs x) (hb : Below w.heap.size w w') : ItAt w' cs x := by
  obtain ⟨a, c, h1, h2, h3, h4, h5⟩ := h
  exact ⟨a, c, h1, h2, h3, h4.below hb, h5⟩
theorem ItAt.len {w : World} {cs : List Value} {x : Itm} (h : ItAt w cs x) : cs.length = 7 := by
  obtain ⟨a, c, rfl, _⟩ := h; rfl
/-- Items in a row. -/
def ItsAt (w : World) (a : Option Addr) (l : List Itm) : Prop := ∃ css : List (List Value), css.length = l.length ∧ Row w a css.flatten ∧ (∀ c ∈ css, c.length = 7) ∧ ∀ (i : Nat) (c : List Value) (x : Itm), css[i]? = some c → l[i]? = some x → ItAt w c x
theorem ItsAt.below {w w' : World} {a : Option Addr} {l : List Itm} (h : ItsAt w a l) (hb : Below w.heap.size w w') : ItsAt w' a l := by
  obtain ⟨css, h1, h2, h3, h4⟩ := h
  exact ⟨css, h1, h2.below hb, h3, fun i c x hc hx => (h4 i c x hc hx).below hb⟩
theorem ItAt.one {w : World} {cs : List Value} {x : Itm} (h : ItAt w cs x) : ∀ v ∈ cs, v.oneCell' = true := by
  obtain ⟨a, c, rfl, _⟩ := h
  intro v hv
  simp only [itC, List.mem_cons, List.not_mem_nil, or_false] at hv
  rcases hv with rfl | rfl | rfl | rfl | rfl | rfl | rfl <;> rfl
theorem ItsAt.get {w : World} {a : Option Addr} {l : List Itm} (h : ItsAt w a l) {j : Nat} (hj : j < l.length) : ∃ cs, cs.length = 7 ∧ ItAt w cs l[j] ∧ a.isSome = true ∧ ∀ k v, cs[k]? = some v → w.cell? (((hd a).add (j * 7)).add k) = some v := by
  obtain ⟨css, h1, h2, h3, h4⟩ := h
  have hjc : j < css.length := by omega
  have e1 : css[j]? = some css[j] := List.getElem?_eq_getElem hjc
  refine ⟨css[j], h3 _ (List.getElem_mem hjc), h4 j _ _ e1 (List.getElem?_eq_getElem hj), h2.elemSome h3 (by decide) hjc, fun k v hv => h2.elem h3 e1 k v hv⟩
theorem ItsAt.path {w : World} {a : Option Addr} {l : List Itm} (h : ItsAt w a l) {j : Nat} (hj : j < l.length) : w.cell? ((hd a).add (j * 7)) = some (.string (str l[j].path)) ∧ a.isSome = true := by
  obtain ⟨cs, h1, ⟨ap, cp, rfl, _⟩, h3, h4⟩ := h.get hj
  have := h4 0 (strV l[j].path) rfl
  rw [addr_add0] at this
  exact ⟨this, h3⟩
/-- Bytes put behind a row of the call's own. -/
theorem own_appB {w : World} {base : Nat} {v : Value} {l : List UInt8} (h : w.ownsRow base 5 1 v l.length (l.map b8)) {a : Option Addr} {n c : Nat} {m : List UInt8} (hm : Row w a (m.map b8)) (hn : n = m.length)
    (hl : l.length + m.length ≤ 140737488355328) (hb : base ≤ w.heap.size) :
    ∃ v' w', (Builtin.append_ #[26, 26] 26 #[v, .slice a n c]).run Tryd.prog w = .ok v' w' ∧ w'.ownsRow base 5 1 v' (l ++ m).length ((l ++ m).map b8) ∧ Gro w w' v v' := by
  subst hn
  have hsrc : Src Tryd.prog 1 26 (.slice a m.length c) m.length (m.map b8) w := Src.ofRow eB.ht a m.length c (m.map b8) (by decide) (by simp) hm (bytes_one m)
  obtain ⟨v', w', h1, h2, h3, h4⟩ := append_srcK (ty := 26) eB h hsrc (by unfold maxLen; omega) (by omega) hb
  refine ⟨v', w', h1, ?_, ⟨h3, h4⟩⟩
  rw [List.length_append, List.map_append]; exact h2
theorem own_lt {w : World} {base : Nat} {e : TypeId} {v : Value} {n size : Nat} {xs : List Value} (h : w.ownsRow base e size v n xs) : ∀ k, v.ownBlock = some k → base ≤ k := by
  intro k hk
  obtain ⟨hl, ⟨rfl, rfl⟩ | ⟨g, c, cur, rfl, hg, hb, hn, hm, hy, ht⟩⟩ := h
  · simp [Value.ownBlock] at hk
  · simp [Value.ownBlock] at hk
    omega
theorem own_old {w : World} {base : Nat} {e : TypeId} {v : Value} {n size : Nat} {xs : List Value} (h : w.ownsRow base e size v n xs) : ∀ k, v.ownBlock = some k → k < w.heap.size := by
  intro k hk
  obtain ⟨hl, ⟨rfl, rfl⟩ | ⟨g, c, cur, rfl, hg, hb, hn, hm, hy, ht⟩⟩ := h
  · simp [Value.ownBlock] at hk
  · simp [Value.ownBlock] at hk
    have hB : Blk w g e cur.toList := by unfold Blk; simpa using hb
    have := hB.lt
    omega
theorem own_brd {w : World} {base : Nat} {v : Value} {l : List UInt8} (h : w.ownsRow base 5 1 v l.length (l.map b8)) : BRd w v l := by
  obtain ⟨a, c, rfl, h2, h3, h4, _⟩ := owns_rowN h (by decide)
  exact ⟨a, c, rfl, h2, h3, h4⟩
section
variable (ρ : Operand → Value) (dst : Option Tmp) (ty : TypeId) (pos : String) (after : Array Edge) (guard : Option (Nat × Bool))
theorem h_stIT (x y : Operand) : execOp ρ { dst, op := .store 24 x y, type := ty, pos, after, guard } = (do stoOp 24 (ρ x) (ρ y); pure .skip) := rfl
theorem h_alIT : execOp ρ { dst, op := .alloc 24, type := ty, pos, after, guard } = (do pure (.value (← alOp 24))) := rfl
end
def zIT : Array Value := #[.string .empty, .int .i64 0, .int .i64 0, .int .i64 0, .string .empty, .int .i64 0, .slice none 0 0]
theorem zIT_size : zIT.size = 7 := rfl
theorem infoIT : (Tryd.prog.info? 24).map (fun i => (i.zero, i.size)) = some (some (.agg zIT), 7) := by kernel_rfl
theorem zeroIT : (Tryd.prog.info? 24).bind (·.zero) = some (.agg zIT) := by kernel_rfl
theorem r_ldIT {w : World} {b : Nat} {cs : Array Value} {T : TypeId} (hb : w.heap.size = b) (hs : cs.size = 7) : (ldOp 24 (.pointer (some ⟨b, 0, none⟩))).run Tryd.prog (w.alloc (.cells cs T)) = .ok (.agg cs) (w.alloc (.cells cs T)) :=
  ldOp_new hb Tryd.underlying24 rfl (by rw [hs]; exact sizeIT)
theorem r_stIT {w : World} {b : Nat} {old cs : Array Value} {T : TypeId} (hb : w.heap.size = b) (ho : old.size = 7) (hs : cs.size = 7) (h1 : OneC cs) : (stoOp 24 (.pointer (some ⟨b, 0, none⟩)) (.agg cs)).run Tryd.prog (w.alloc (.cells old T)) = .ok () (w.alloc (.cells cs T)) :=
  stOp_new hb (by rw [hs]; exact sizeIT) (by rw [ho, hs]) h1
theorem r_alIT {w : World} : (alOp 24).run Tryd.prog w = .ok (.pointer (some ⟨w.heap.size, 0, none⟩)) (w.alloc (.cells zIT 24)) := alOp_run zeroIT
attribute [local go_sem ↓] h_ldIT h_stIT h_alIT
attribute [local go_sem] r_ldIT r_stIT r_alIT
set_option maxHeartbeats 8000000 in
theorem stream_any {a : Option Addr} {n c : Nat} {l : List Itm} {w : World} (hn : n = l.length) (hI : ItsAt w a l) (hp : ∀ x ∈ l, x.path.length ≤ 1000000 ∧ x.parts.length ≤ 1000) (hl : l.length ≤ 1000000) :
    Calls Tryd.prog 18 #[.slice a n c] w fun e w' => ∃ u, e = .returned (.tuple #[u, .int .i64 (streamF l).2]) ∧ BRd w' u (streamF l).1 ∧ Below w.heap.size w w' := by
  subst hn
  have zt := zIT_size
  have hF : Hid (streamF l = if 100 < l.length then ([], 16) else if strE l ≠ 0 then ([], strE l) else if risesP (l.map (·.path)) = true then (strB l, 0) else ([], 18)) := rfl
  generalize streamF l = F at *
  by_cases h100 : 100 < l.length
  · have e1 : (100 : Int) < (l.length : Int) := by omega
    have hT : Hid (F = ([], 16)) := by show _ = _; rw [hF.out, if_pos h100]
    clear hF
    go_enter Tryd.func18, Tryd.ntmps18
    go_wp2
    go_ret2
    exact ⟨.slice none 0 0, by rw [hT.out] <;> rfl, by rw [hT.out]; exact BRd.nil _, Below.refl _ _⟩
  have e1 : ¬ (100 : Int) < (l.length : Int) := by omega
  have hF2 : Hid (F = if strE l ≠ 0 then ([], strE l) else if risesP (l.map (·.path)) = true then (strB l, 0) else ([], 18)) := by show _ = _; rw [hF.out, if_neg h100]
  have hS0 : Hid (strE (l.drop 0) = strE l) := rfl
  have HL : Hid (l.length ≤ 100) := by show _ ≤ _; omega
  have HP := Lib.hid hp
  have HI := Lib.hid hI
  generalize hSE : strE l = SE at *
  clear hF h100 hp hI hSE hl
  go_enter Tryd.func18, Tryd.ntmps18
  go_upto_block 0 with (fail)
  go_cut [4] (fun u wx => SE = 0 ∧ wx.ownsRow w.heap.size 5 1 u (strB l).length ((strB l).map b8) ∧ Below w.heap.size w wx)
  case first =>
    go_wp2
    go_loopw [4, 16] (fun u i wr => ∃ j : Nat, j ≤ l.length ∧ i = .int .i64 j ∧ Hid (strE (l.drop j) = SE) ∧ Hid (wr.ownsRow w.heap.size 5 1 u (strB (l.take j)).length ((strB (l.take j)).map b8)) ∧ Hid (Below w.heap.size w wr)) (fun _ i _ => l.length - (intOf i).toNat)
    case atStart => exact ⟨0, Nat.zero_le _, rfl, hS0, Lib.hid (World.ownsRow_nil _ _ _ _), Lib.hid (Below.refl _ _)⟩
    case round =>
      obtain ⟨j, hj, rfl, hE, hO, hb⟩ := hrel
      have j0 : (0 : Int) ≤ (j : Int) := by omega
      have jb : IntKind.i64.wrap ((j : Int) + 1) = (j : Int) + 1 := IntWalk.i64_in _ (by have := HL.out; omega)
      clear hS0
      by_cases hlt : j < l.length
      · have j1 : (j : Int) < (l.length : Int) := by omega
        obtain ⟨cs, c7, hIt, s1, hcl⟩ := (HI.out.below hb.out).get hlt
        have q1 := ldOp_at (P := Tryd.prog) (ty := 24) (cs := cs) hcl Tryd.underlying24 rfl (by rw [c7]; exact sizeIT)
        have hE2 : Hid ((if checkI l[j] ≠ 0 then checkI l[j] else if (encF (itV l[j])).2 ≠ 0 then (encF (itV l[j])).2 else strE (l.drop (j + 1))) = SE) := by
          show _ = _
          rw [← hE.out, List.drop_eq_getElem_cons hlt]; rfl
        have hTk : Hid (strB (l.take (j + 1)) = strB (l.take j) ++ recB l[j]) := by show _ = _; rw [List.take_succ_eq_append_getElem hlt, strB_snoc]
        have hPx := HP.out _ (List.getElem_mem hlt)
        have hlen := strB_len (l.take j)
        have hlj : (l.take j).length ≤ 100 := by have := HL.out; simp; omega
        generalize l[j] = x at *
        have x1 : cs.toArray.size = 7 := by simpa using c7
        have x2 : OneC cs.toArray := all_oneCell_toArray hIt.one
        clear hE
        go_upto_region 7 with (fail)
        have hxB : Blk (wr.alloc (.cells cs.toArray 24)) wr.heap.size 24 cs := Blk.new wr 24 _
        have hb0x : Below wr.heap.size wr (wr.alloc (.cells cs.toArray 24)) := (Below.refl _ _).alloc (Nat.le_refl _) _
        have hbW := Lib.hid (hb.out.trans (hb0x.mono hb.out.size))
        have hO1 := Lib.hid (ownsRow_below hO.out hb0x)
        have hI1 := hIt.below hb0x
        obtain ⟨ap, cp, rfl, p1, p2, hpr, hok⟩ := hI1
        generalize wr.alloc (.cells (itC x ap cp).toArray 24) = W at *
        generalize wr.heap.size = qx at *
        have d0 := ldOp_all (P := Tryd.prog) (ty := 24) hxB Tryd.underlying24 rfl (by rw [c7]; exact sizeIT)
        have hck := icheck_any (c := cp) hpr hok (by omega) hPx.1
        clear q1 hb hb0x s1 hO hIt hcl x1 x2
        go_wp2_with fail
        refine hck.mono ?_
        rintro e w2 ⟨rfl, hb2⟩
        by_cases h0 : checkI x = 0
        case neg =>
          have eb : (checkI x != 0) = true := by simpa using h0
          have hT : Hid (F = ([], checkI x)) := by
            show _ = _
            have h1 := hE2.out
            rw [if_pos h0] at h1
            rw [hF2.out, ← h1, if_pos h0]
          have hbf := Lib.hid (hbW.out.trans (hb2.mono hbW.out.size))
          clear hF2 hE2 hbW hO1 hpr hck d0
          generalize checkI x = CI at *
          go_wp2
          go_ret2
          exact ⟨.slice none 0 0, by rw [hT.out] <;> rfl, by rw [hT.out]; exact BRd.nil _, hbf.out⟩
        case pos =>
        rw [h0]
        have hxB2 := hxB.below hb2
        have hpr2 := hpr.below hb2
        have hbW2 := Lib.hid (hbW.out.trans (hb2.mono hbW.out.size))
        have hO2 := Lib.hid (ownsRow_below hO1.out hb2)
        have hE3 : Hid ((if (encF (itV x)).2 ≠ 0 then (encF (itV x)).2 else strE (l.drop (j + 1))) = SE) := by show _ = _; have h1 := hE2.out; rw [h0] at h1; exact h1
        clear hxB hpr hbW hO1 hE2 hck d0 hb2
        have d0 := ldOp_all (P := Tryd.prog) (ty := 24) hxB2 Tryd.underlying24 rfl (by rw [c7]; exact sizeIT)
        go_wp2_with fail
        refine (ivalue_any (c := cp) hpr2 hok hPx.2 hPx.1).mono ?_
        rintro e w3 ⟨vs, rfl, hV, hb3⟩
        have hbW3 := Lib.hid (hbW2.out.trans (hb3.mono hbW2.out.size))
        have hO3 := Lib.hid (ownsRow_below hO2.out hb3)
        clear hbW2 hO2 hpr2 hxB2 hb3 d0
        go_wp2_with fail
        refine (enc_own hV.at (Below.refl _ _)).mono ?_
        rintro e w4 ⟨ub, rfl, ⟨ab, cb, rfl, g1, g2, hrb, hfr⟩, hb4⟩
        have hown3 := own_old hO3.out
        have hbW4 := Lib.hid (hbW3.out.trans (hb4.mono hbW3.out.size))
        have hO4 := Lib.hid (ownsRow_below hO3.out hb4)
        clear hbW3 hO3 hV hb4
        have hrec : Hid (recB x = (putL (encF (itV x)).1.length 4).reverse ++ (encF (itV x)).1) := rfl
        have hes := encF_small (itV x)
        generalize (encF (itV x)).2 = EE at *
        generalize (encF (itV x)).1 = EB at *
        generalize recB x = RB at *
        by_cases h1 : EE = 0
        case neg =>
          have eb : (EE != 0) = true := by simpa using h1
          have hT : Hid (F = ([], EE)) := by
            show _ = _
            have h2 := hE3.out
            rw [if_pos h1] at h2
            rw [hF2.out, ← h2, if_pos h1]
          clear hF2 hE3
          go_wp2
          go_ret2
          exact ⟨.slice none 0 0, by rw [hT.out] <;> rfl, by rw [hT.out]; exact BRd.nil _, hbW4.out⟩
        case pos =>
        subst h1
        have hE4 : Hid (strE (l.drop (j + 1)) = SE) := by show _ = _; rw [← hE3.out, if_neg (by simp)]
        have eu : IntKind.u64.wrap (EB.length : Int) = (EB.length : Int) := by rw [IntKind.wrap_u64]; omega
        clear hE3
        go_wp2_with fail
        refine (big_any EB.length 4 _ (by omega) (by decide) (by decide)).mono ?_
        rintro e w5 ⟨pv, rfl, hF⟩
        obtain ⟨a5, c5, rfl, hr5, hb5, hm5, _⟩ := hF.open
        have hbW5 := Lib.hid (hbW4.out.trans (hb5.mono hbW4.out.size))
        have hO5 := ownsRow_below hO4.out hb5
        have hrb5 := hrb.below hb5
        have l4 : (putL EB.length 4).reverse.length = 4 := by simp [putL_length]
        have sz5 := hbW5.out.size
        obtain ⟨v6, w6, hrun6, hO6, hg6⟩ := own_appB (c := c5) hO5 hr5 rfl (by rw [l4]; omega) sz5
        have hb6 := hg6.below (base := w.heap.size) (old := w.heap.size) (own_lt hO5) (Nat.le_refl _) sz5
        have hrb6 : Row w6 ab (EB.map b8) := hrb5.keptFar hg6.gr (fun h0 e => by
          have h1 := hfr (by simpa using h0)
          have h2 := hown3 _ e
          omega)
        have sz6 := hg6.size
        have hll : (strB (l.take j) ++ (putL EB.length 4).reverse).length + EB.length ≤ 140737488355328 := by rw [List.length_append, l4]; omega
        obtain ⟨v7, w7, hrun7, hO7, hg7⟩ := own_appB (n := EB.length) (c := cb) hO6 hrb6 rfl hll (by omega)
        have hbW7 := Lib.hid ((hbW5.out.trans hb6).trans (hg7.below (base := w.heap.size) (old := w.heap.size) (own_lt hO6) (Nat.le_refl _) (by omega)))
        have hO8 : Hid (w7.ownsRow w.heap.size 5 1 v7 (strB (l.take (j + 1))).length ((strB (l.take (j + 1))).map b8)) := by
          show World.ownsRow _ _ _ _ _ _ _
          rw [hTk.out, hrec.out, ← List.append_assoc]; exact hO7
        rw [l4] at hrun6
        go_upto_region 14 with (at_builtin; refine wpList_append_run hrun6 rfl rfl rfl rfl ?_)
        clear hrun6 hO6 hO7 hg7 hg6 hb6 hrb6 hrb5 hr5 hrb hO4 hO5 hbW4 hbW5
        go_wp2_with (at_builtin; refine wpList_append_run hrun7 rfl rfl rfl rfl ?_)
        first
          | exact ⟨⟨j + 1, by omega, (by first | rfl | go_num | (congr 1; omega)), hE4, hO8, hbW7⟩, by simp [intOf] <;> omega⟩
          | (refine ⟨?_, by simp [intOf] <;> omega⟩; (repeat apply Exists.intro); exact ⟨⟨j + 1, by omega, (by first | rfl | go_num | (congr 1; omega)), hE4, hO8, hbW7⟩, rfl⟩)
      · have hSE : SE = 0 := by rw [← hE.out, List.drop_eq_nil_of_le (by omega)]; rfl
        have j1 : ¬ (j : Int) < (l.length : Int) := by omega
        have hO9 : wr.ownsRow w.heap.size 5 1 u4 (strB l).length ((strB l).map b8) := by
          have := hO.out
          rw [List.take_of_length_le (by omega)] at this; exact this
        have hh := Lib.hid (And.intro hSE (And.intro hO9 hb.out))
        clear hSE hO9
        go_wp2
        go_meet
        exact hh.out
  case rest =>
    obtain ⟨hSE, hOc, hbc⟩ := hcut
    have HR : Hid (F = if risesP (l.map (·.path)) = true then (strB l, 0) else ([], 18)) := by show _ = _; rw [hF2.out, if_neg (by rw [hSE]; simp)]
    have HB := Lib.hid hbc
    have HO := Lib.hid hOc
    have hrc := Lib.hid (HI.out.below hbc)
    clear hF2 hSE hS0 hbc hOc HI
    go_wp2
    go_loopw [10] (fun i wr => ∃ j : Nat, 1 ≤ j ∧ j ≤ l.length + 1 ∧ i = .int .i64 j ∧ Hid (risesP ((l.map (·.path)).take j) = true) ∧ Hid (∃ n, wr = wc.drewN n)) (fun i _ => l.length + 1 - (intOf i).toNat)
    case atStart => exact ⟨1, Nat.le_refl _, by omega, rfl, Lib.hid (risesP_one _), Lib.hid ⟨0, by rw [World.drewN_zero]⟩⟩
    case round =>
      obtain ⟨j, hj1, hj, rfl, hri, hwr⟩ := hrel
      obtain ⟨nn, hwr⟩ := hwr.out
      have j0 : (0 : Int) ≤ (j : Int) := by omega
      have jb : IntKind.i64.wrap ((j : Int) + 1) = (j : Int) + 1 := IntWalk.i64_in _ (by have := HL.out; omega)
      by_cases hlt : j < l.length
      · have j1 : (j : Int) < (l.length : Int) := by omega
        have hrw : ItsAt wr a l := by rw [hwr]; exact hrc.out.below (Below.drewN (Below.refl _ _) nn)
        obtain ⟨k, hk⟩ : ∃ k, k = j - 1 := ⟨_, rfl⟩
        have hkl : k < l.length := by omega
        have im : IntKind.i64.wrap ((j : Int) - 1) = (k : Int) := by rw [IntWalk.i64_in _ (by have := HL.out; omega)]; omega
        have k0 : (0 : Int) ≤ (k : Int) := by omega
        have k1 : (k : Int) < (l.length : Int) := by omega
        obtain ⟨q1, s1⟩ := hrw.path hlt
        have q2 := (hrw.path hkl).1
        have hbF : Hid (∀ n, Below w.heap.size w (wr.drewN n)) := fun n => by rw [hwr, World.drewN_drewN]; exact Below.drewN HB.out _
        have hNX : Hid (∀ n, ∃ m, wr.drewN n = wc.drewN m) := fun n => ⟨nn + n, by rw [hwr, World.drewN_drewN]⟩
        have hRT : Hid (risesP ((l.map (·.path)).take (j + 1)) = lessF (l[k]).path (l[j]).path) := by
          show _ = _
          obtain rfl : j = k + 1 := by omega
          rw [risesP_take _ k (by simpa using hlt), hri.out]
          simp
        have hNR : Hid (risesP ((l.map (·.path)).take (j + 1)) = false → risesP (l.map (·.path)) = false) := risesP_not
        have hle := fun w' => less_any (l[k]).path (l[j]).path w' (HP.out _ (List.getElem_mem hkl)).1 (HP.out _ (List.getElem_mem hlt)).1
        generalize l[j].path = y at *
        generalize l[k].path = z at *
        clear hk hwr hrw hri
        generalize lessF z y = LF at *
        go_wp2
        go_quiet ((go_at_call 42; exact Calls.quiet_of (hle _)))
        cases LF
        · have hR : Hid (F = ([], 18)) := by
            show _ = _
            rw [HR.out, if_neg]
            rw [hNR.out hRT.out]; decide
          clear hRT hNR HR hNX
          go_wp2
          go_ret2
          exact ⟨.slice none 0 0, by rw [hR.out] <;> rfl, by rw [hR.out]; exact BRd.nil _, hbF.out nq⟩
        · have hri2 : Hid (risesP ((l.map (·.path)).take (j + 1)) = true) := hRT
          have hnx := Lib.hid (hNX.out nq)
          clear hRT hNR hNX hbF
          go_wp2
          first
            | exact ⟨⟨j + 1, by omega, by omega, (by first | rfl | go_num | (congr 1; omega)), hri2, hnx⟩, by simp [intOf] <;> omega⟩
            | (refine ⟨?_, by simp [intOf] <;> omega⟩; (repeat apply Exists.intro); exact ⟨⟨j + 1, by omega, by omega, (by first | rfl | go_num | (congr 1; omega)), hri2, hnx⟩, rfl⟩)
      · have hR : Hid (F = (strB l, 0)) := by
          show _ = _
          have h := hri.out
          rw [List.take_of_length_le (by simp; omega)] at h
          rw [HR.out, if_pos h]
        have hbF : Below w.heap.size w wr := by rw [hwr]; exact Below.drewN HB.out _
        have hbr := Lib.hid ((own_brd HO.out).below (w' := wr) (by rw [hwr]; exact Below.drewN (Below.refl _ _) _))
        have j1 : ¬ (j : Int) < (l.length : Int) := by omega
        clear hri HR hwr
        go_wp2
        go_ret2
        exact ⟨_, by rw [hR.out] <;> rfl, by rw [hR.out]; exact hbr.out, hbF⟩
end Go.Proofs.YtpchogicdnfggaaDoor
set_option maxRecDepth 20000
namespace Go.Proofs.YtpchogicdnfggaaDoor
open Go.RowKit Go.Hd
section
variable (ρ : Operand → Value) (dst : Option Tmp) (ty : TypeId) (pos : String) (after : Array Edge) (guard : Option (Nat × Bool))
theorem h_bsIT (n : Nat) (parts : Array (Nat × Operand)) : execOp ρ { dst, op := .buildSlice 39 n parts, type := ty, pos, after, guard } = (do pure (.value (← bsOp 39 n (parts.map fun (i, x) => (i, ρ x))))) := rfl
theorem h_bdIT (parts : Array (Nat × Operand)) : execOp ρ { dst, op := .build 24 parts, type := ty, pos, after, guard } = (do pure (.value (← bdOp 24 (parts.map fun (i, x) => (i, ρ x))))) := rfl
end
theorem r_bsIT {w : World} {cs : Array Value} (hs : cs.size = 7) : (bsOp 39 1 #[(0, .agg cs)]).run Tryd.prog w = .ok (.slice (some ⟨w.heap.size, 0, none⟩) 1 1) (w.alloc (.cells cs 24)) :=
  bsOp_one Tryd.underlying39 infoIT (by decide) (by decide) (by exact zIT_size) hs
def it0 : Itm := ⟨[97], 2, 0, 0, [], 0, []⟩
theorem it0_stream : (streamF [it0]).2 = 0 ∧ 8 < (streamF [it0]).1.length := by decide +kernel
theorem it0_kind : (itV it0).kind = 7 := by decide +kernel
theorem it0_ok : ItmOk it0 := ⟨by unfold in64; decide, by unfold in64; decide, by unfold in64; decide, by unfold in64; decide, by decide, by decide, by intro p h; cases h⟩
theorem bd_it0 {w : World} : (bdOp 24 #[(0, .string ⟨#[97]⟩), (1, .int .i64 2)]).run Tryd.prog w = .ok (.agg (List.toArray (itC it0 none 0))) w := by
  refine run_build w _ _ _ ?_
  rw [built_struct Tryd.underlying24 zeroIT (places := [(0, 1), (1, 1), (2, 1), (3, 1), (4, 1), (5, 1), (6, 1)]) (by kernel_rfl)]
  have hz : zIT.toList = [.string .empty, .int .i64 0, .int .i64 0, .int .i64 0, .string .empty, .int .i64 0, .slice none 0 0] := rfl
  have hzs := zIT_size
  rw [fill_cons (off := 0) (size := 1) (by rfl) rfl (by simp [Value.cells, hzs]), fill_cons (off := 1) (size := 1) (by rfl) rfl (by simp [Value.cells, hzs]), fill_nil]
  congr 2
theorem fieldV0 {a1 a2 a3 a4 a5 : Value} {n : Int} {w : World} : (Instr.field 30 (.agg #[.int .i64 n, a1, a2, a3, a4, a5]) 0).run Tryd.prog w = .ok (.int .i64 n) w := by
  unfold Instr.field
  have hu := Tryd.underlying30
  simp [Sem.run_bind, Go.underlying, Go.Sem.run_pure, hu, asAgg, part]
theorem vat_kind {w : World} {cs : List Value} {v : PV} (h : VAt w cs v) : ∃ u1 u2 u3 u4 u5, cs = [.int .i64 v.kind, u1, u2, u3, u4, u5] := by
  cases h
  exact ⟨_, _, _, _, _, rfl⟩
attribute [local go_sem ↓] h_ldIT h_stIT h_alIT h_bsIT h_bdIT
attribute [local go_sem] r_ldIT r_stIT r_alIT r_bsIT fieldV0
set_option maxHeartbeats 2000000 in
theorem lives21_any (w : World) : Calls Tryd.prog 16 #[] w fun e w' => e = .returned (.bool true) ∧ Below w.heap.size w w' := by
  have hb0 : Below w.heap.size w (w.alloc (.cells (List.toArray (itC it0 none 0)) 24)) := (Below.refl _ _).alloc (Nat.le_refl _) _
  have hrow : Row (w.alloc (.cells (List.toArray (itC it0 none 0)) 24)) (some ⟨w.heap.size, 0, none⟩) [itC it0 none 0].flatten := by
    have := (Blk.new w 24 (List.toArray (itC it0 none 0))).row
    simpa using this
  have hIA : ∀ w, ItAt w (itC it0 none 0) it0 := fun w => ⟨none, 0, rfl, Nat.le_refl _, Nat.zero_le _, Row.nil _ _, it0_ok⟩
  have hI : ItsAt (w.alloc (.cells (List.toArray (itC it0 none 0)) 24)) (some ⟨w.heap.size, 0, none⟩) [it0] := ⟨[itC it0 none 0], rfl, hrow, by intro c hc; simp at hc; subst hc; rfl, fun i c x hc hx => by
    match i with
    | 0 => simp at hc hx; subst hc hx; exact hIA _
    | i + 1 => simp at hc⟩
  have hst := stream_any (n := 1) (c := 1) rfl hI (by intro x hx; simp at hx; subst hx; exact ⟨by decide, by decide⟩) (by decide)
  have hv := fun w => ivalue_any (x := it0) (a := none) (c := 0) (w := w) (Row.nil _ _) it0_ok (by decide) (by decide)
  have hbd := fun {w : World} => bd_it0 (w := w)
  rw [it0_stream.1] at hst
  have h8 := it0_stream.2
  have hk7 := it0_kind
  generalize streamF [it0] = F at *
  generalize itV it0 = v at *
  have h7 : (List.toArray (itC it0 none 0)).size = 7 := rfl
  clear hI hIA hrow
  generalize itC it0 none 0 = X at *
  have i8 : (8 : Int) < (F.1.length : Int) := by omega
  go_enter Tryd.func16, Tryd.ntmps16
  go_wp2_with fail
  refine hst.mono ?_
  rintro e w1 ⟨u, rfl, ⟨a, c, rfl, hc1, hc2, hr⟩, hb1⟩
  go_wp2_with fail
  refine (hv _).mono ?_
  rintro e w2 ⟨cs, rfl, hV, hb2⟩
  obtain ⟨u1, u2, u3, u4, u5, rfl⟩ := vat_kind hV.at
  rw [hk7]
  go_wp2
  go_ret
  exact ⟨rfl, hb0.trans ((Gr.trans hb1 hb2).mono hb0.size)⟩
end Go.Proofs.YtpchogicdnfggaaDoor
set_option maxRecDepth 20000
namespace Go.Proofs.YtpchogicdnfggaaDoor
open Go.RowKit Go.Hd
/-- An item, none of it too long. -/
def cutI (x : Itm) : Itm := { x with path := x.path.take 250, target := x.target.take 250, parts := x.parts.take 70 }
/-- One element of s cells put behind a row of the call's own. -/
theorem own_appS {t ty e : TypeId} {z : Value} {s bytes : Nat} (E : Elem Tryd.prog t e z s bytes) (hs : 0 < s) {w : World} {base : Nat} {v : Value} {n : Nat} {xs : List Value} (hown : w.ownsRow base e s v n xs)
    (cs : List Value) (hc : cs.length = s) (h1 : ∀ u ∈ cs, u.oneCell' = true) (h63 : n + 1 ≤ maxLen) (hbytes : (n + 1) * bytes ≤ 140737488355328) (hbase : base ≤ w.heap.size) :
    ∃ a' c' w', (Builtin.append_ #[t, t] ty #[v, .slice (some ⟨w.heap.size, 0, none⟩) 1 1]).run Tryd.prog (w.alloc (.cells cs.toArray e)) = .ok (.slice a' (n + 1) c') w' ∧ w'.ownsRow base e s (.slice a' (n + 1) c') (n + 1) (xs ++ cs) ∧ Gro w w' v (.slice a' (n + 1) c') := by
  have hsrc : Src Tryd.prog s t (.slice (some ⟨w.heap.size, 0, none⟩) 1 1) 1 cs (w.alloc (.cells cs.toArray e)) :=
    Src.ofRow E.ht _ 1 1 cs hs (by simpa using hc) (by simpa using (Blk.new w e cs.toArray).row) h1
  obtain ⟨v', w', h1, h2, h3, h4⟩ := append_srcK (ty := ty) E (hown.alloc _) hsrc h63 hbytes (by simp; omega)
  obtain ⟨a', c', rfl, _⟩ := owns_rowN h2 hs
  have hb0 : Below w.heap.size w (w.alloc (.cells cs.toArray e)) := (Below.refl _ _).alloc (Nat.le_refl _) _
  exact ⟨a', c', w', h1, h2, (Gro.ofBelow hb0).trans ⟨h3, h4⟩⟩
theorem prtC_one (p : Prt) : ∀ u ∈ prtC p, u.oneCell' = true := by
  intro u hu
  rcases List.mem_append.1 hu with h | h
  · exact bytes_one _ _ h
  · simp at h; subst h; rfl
theorem Gro.blkB {w w' : World} {v u : Value} {q base : Nat} {T : TypeId} {xs : List Value} (h : Gro w w' v u) (hb : Blk w q T xs) (hv : ∀ k, v.ownBlock = some k → base ≤ k) (hq : q < base) : Blk w' q T xs :=
  (h.blk hb (fun e => by have := hv _ e; omega)).1
/-- An item's cells, its parts in blocks of this kind. -/
def ItP (ok : Nat → Prop) (w : World) (cs : List Value) (x : Itm) : Prop := ∃ a c, cs = itC x a c ∧ x.parts.length ≤ c ∧ c ≤ maxLen ∧ Row w a (x.parts.map prtC).flatten ∧ ItmOk x ∧ (0 < x.parts.length → ok (hd a).block)
theorem ItP.at {ok : Nat → Prop} {w : World} {cs : List Value} {x : Itm} (h : ItP ok w cs x) : ItAt w cs x := by
  obtain ⟨a, c, h1, h2, h3, h4, h5, _⟩ := h
  exact ⟨a, c, h1, h2, h3, h4, h5⟩
theorem ItP.below {ok : Nat → Prop} {w w' : World} {cs : List Value} {x : Itm} (h : ItP ok w cs x) (hb : Below w.heap.size w w') : ItP ok w' cs x := by
  obtain ⟨a, c, h1, h2, h3, h4, h5, h6⟩ := h
  exact ⟨a, c, h1, h2, h3, h4.below hb, h5, h6⟩
theorem ItP.kept {ok : Nat → Prop} {w w' : World} {cs : List Value} {x : Itm} {r : Option Nat} (h : ItP ok w cs x) (hg : w.grownBy w' r) (hr : ∀ b, ok b → r ≠ some b) : ItP ok w' cs x := by
  obtain ⟨a, c, h1, h2, h3, h4, h5, h6⟩ := h
  refine ⟨a, c, h1, h2, h3, h4.keptFar hg (fun h0 => hr _ (h6 ?_)), h5, h6⟩
  rw [flatten_len (s := 33) (prts33I h5.parts), List.length_map] at h0; omega
/-- The loop of Cut: j parts have been taken over. -/
def CutR (w : World) (x : Itm) (X : List Value) (j : Nat) (a' : Option Addr) (c' : Nat) (wr : World) : Prop :=
  Blk wr (w.heap.size + 1 + 1) 24 [.string (str (x.path.take 250)), .int .i64 x.kind, .int .i64 x.mode, .int .i64 x.time, .string (str (x.target.take 250)), .int .i64 x.size, .slice a' j c'] ∧ Blk wr w.heap.size 24 X ∧ Blk wr (w.heap.size + 1) 24 zIT.toList ∧ Below w.heap.size w wr ∧ wr.ownsRow (w.heap.size + 3) 65 33 (.slice a' j c') j ((x.parts.take j).map prtC).flatten ∧ w.heap.size + 3 ≤ wr.heap.size
theorem st_rowI {w : World} {q : Nat} {T : TypeId} {old : List Value} (h : Blk w q T old) (ho : old.length = 7) : ∀ cs : Array Value, cs.size = 7 → OneC cs → (stoOp 24 (.pointer (some ⟨q, 0, none⟩)) (.agg cs)).run Tryd.prog w = .ok () (w.setRow q cs) := by
  intro cs h6 h1
  unfold stoOp
  simp only [Instr.storeAt, Instr.sureAddr, Sem.run_bind, Sem.run_pure, Result.andThen]
  rw [run_storeVar_row w q T 24 old.toArray cs h (by rw [h6]; exact sizeIT) (by simp [ho, h6]) h1]
attribute [local go_sem ↓] h_ldPA h_bsPA h_ldIT h_stIT h_alIT
attribute [local go_sem] r_ldIT r_stIT r_alIT r_bsPA
set_option maxHeartbeats 4000000 in
theorem rcut_any {cs : List Value} {x : Itm} {w : World} (h : ItAt w cs x) : Calls Tryd.prog 9 #[.agg (List.toArray cs)] w fun e w' => ∃ ds, e = .returned (.agg (List.toArray ds)) ∧ ItP (fun b => w.heap.size ≤ b) w' ds (cutI x) ∧ Below w.heap.size w w' := by
  obtain ⟨a, c, rfl, p1, p2, hr, hok⟩ := h
  have h7 : (List.toArray (itC x a c)).size = 7 := rfl
  have hone : OneC (List.toArray (itC x a c)) := all_oneCell_toArray (ItAt.one (w := w) ⟨a, c, rfl, p1, p2, hr, hok⟩)
  have zs := zIT_size
  obtain ⟨X, hX⟩ : ∃ X, X = itC x a c := ⟨_, rfl⟩
  have hall : Hid (∀ W, W = ((w.alloc (.cells (List.toArray X) 24)).alloc (.cells zIT 24)).alloc (.cells (List.toArray X) 24) → Blk W w.heap.size 24 X ∧ Blk W (w.heap.size + 1) 24 zIT.toList ∧ Blk W (w.heap.size + 1 + 1) 24 X ∧ Below w.heap.size w W ∧ W.heap.size = w.heap.size + 3) := by
    rintro W rfl
    refine ⟨?_, ?_, ?_, (((Below.refl _ _).alloc (Nat.le_refl _) _).alloc (by simp) _).alloc (by simp; omega) _, by simp⟩
    · simpa using ((Blk.new w 24 (List.toArray X)).alloc (.cells zIT 24)).alloc (.cells (List.toArray X) 24)
    · have := (Blk.new (w.alloc (.cells (List.toArray X) 24)) 24 zIT).alloc (.cells (List.toArray X) 24)
      simpa using this
    · have := Blk.new ((w.alloc (.cells (List.toArray X) 24)).alloc (.cells zIT 24)) 24 (List.toArray X)
      simpa using this
  have hld : ∀ {w'}, Blk w' w.heap.size 24 X → (ldOp 24 (.pointer (some ⟨w.heap.size, 0, none⟩))).run Tryd.prog w' = .ok (.agg (List.toArray X)) w' := fun {w'} hb => ldOp_all (P := Tryd.prog) (ty := 24) hb Tryd.underlying24 rfl (by rw [hX]; exact sizeIT)
  have q0 := hld (w' := (w.alloc (.cells (List.toArray X) 24)).alloc (.cells zIT 24)) (by simpa using (Blk.new w 24 (List.toArray X)).alloc (.cells zIT 24))
  rw [← hX] at h7 hone ⊢
  have HX := Lib.hid hX
  clear hX
  go_enter Tryd.func9, Tryd.ntmps9
  go_upto_region 2 with (fail)
  generalize hW : ((w.alloc (.cells (List.toArray X) 24)).alloc (.cells zIT 24)).alloc (.cells (List.toArray X) 24) = W at *
  obtain ⟨A0, R0, B0, hb0, S0⟩ := hall.out W rfl
  clear hall hW q0
  have HXc : ∀ {w' q}, Blk w' q 24 X → w'.cell? ⟨q, 0, none⟩ = some (.string (str x.path)) ∧ w'.cell? ⟨q, 4, none⟩ = some (.string (str x.target)) := fun {w' q} hb => by
    rw [HX.out] at hb
    exact ⟨hb.cell rfl, hb.cell rfl⟩
  obtain ⟨a0, a4⟩ := HXc A0
  obtain ⟨b0, b4⟩ := HXc B0
  have hsh := fun (l : List UInt8) (w' : World) => short_any l 250 w' (by decide)
  have hgr : ∀ (W' : World) (i : Nat) (v : Value), Blk W' w.heap.size 24 X → Blk W' (w.heap.size + 1) 24 zIT.toList → Below w.heap.size w W' → Blk (W'.setCell ⟨w.heap.size + 1 + 1, i, none⟩ v) w.heap.size 24 X ∧ Blk (W'.setCell ⟨w.heap.size + 1 + 1, i, none⟩ v) (w.heap.size + 1) 24 zIT.toList ∧ Below w.heap.size w (W'.setCell ⟨w.heap.size + 1 + 1, i, none⟩ v) := fun W' i v h1 h2 h3 => by
    have hg := grown_set (⟨rfl, rfl, rfl, Nat.le_refl _, fun _ _ _ => rfl⟩ : W'.grownBy W' (some (w.heap.size + 1 + 1))) i v
    exact ⟨h1.grown hg (by omega), h2.grown hg (by omega), Below.grown h3 hg h3.size (fun k hk => by cases hk; omega)⟩
  obtain ⟨A1, R1, hb1⟩ := hgr W 0 (.string (str (x.path.take 250))) A0 R0 hb0
  obtain ⟨A3, R3, hb3⟩ := hgr _ 4 (.string (str (x.target.take 250))) A1 R1 hb1
  have B1 := B0.set 0 (.string (str (x.path.take 250)))
  have B3 := B1.set 4 (.string (str (x.target.take 250)))
  have f0 := B0.free 0
  have f4 := B1.free 4
  obtain ⟨c0, c4⟩ := HXc A1
  have HN : Hid (Blk ((W.setCell ⟨w.heap.size + 1 + 1, 0, none⟩ (.string (str (x.path.take 250)))).setCell ⟨w.heap.size + 1 + 1, 4, none⟩ (.string (str (x.target.take 250)))) (w.heap.size + 1 + 1) 24 ((X.set 0 (.string (str (x.path.take 250)))).set 4 (.string (str (x.target.take 250)))) ∧ Blk ((W.setCell ⟨w.heap.size + 1 + 1, 0, none⟩ (.string (str (x.path.take 250)))).setCell ⟨w.heap.size + 1 + 1, 4, none⟩ (.string (str (x.target.take 250)))) w.heap.size 24 X ∧ Blk ((W.setCell ⟨w.heap.size + 1 + 1, 0, none⟩ (.string (str (x.path.take 250)))).setCell ⟨w.heap.size + 1 + 1, 4, none⟩ (.string (str (x.target.take 250)))) (w.heap.size + 1) 24 zIT.toList ∧ Below w.heap.size w ((W.setCell ⟨w.heap.size + 1 + 1, 0, none⟩ (.string (str (x.path.take 250)))).setCell ⟨w.heap.size + 1 + 1, 4, none⟩ (.string (str (x.target.take 250))))) := ⟨B3, A3, R3, hb3⟩
  clear A0 R0 B0 A1 R1 B1 A3 R3 B3 hb1 hb3 hgr
  go_cut [] (fun wx => Blk wx (w.heap.size + 1 + 1) 24 ((X.set 0 (.string (str (x.path.take 250)))).set 4 (.string (str (x.target.take 250)))) ∧ Blk wx w.heap.size 24 X ∧ Blk wx (w.heap.size + 1) 24 zIT.toList ∧ Below w.heap.size w wx)
  case first =>
    go_wp2
    go_region_law ((first | (go_simp; go_at_call 24; refine (hsh _ _).mono ?_; rintro e wq ⟨rfl, rfl⟩)))
    all_goals
      go_wp2
      go_meet
      exact ⟨HN.out.1.drewN 1, HN.out.2.1.drewN 1, HN.out.2.2.1.drewN 1, Below.drewN HN.out.2.2.2 1⟩
  case rest =>
    clear HN a0 a4 b0 b4 f0 f4 c0 c4
    obtain ⟨Y0, A0, R0, hb0⟩ := hcut
    have hITR : ∀ {w' : World}, w'.heap.size = w'.heap.size := rfl
    have eY : (X.set 0 (.string (str (x.path.take 250)))).set 4 (.string (str (x.target.take 250))) = [.string (str (x.path.take 250)), .int .i64 x.kind, .int .i64 x.mode, .int .i64 x.time, .string (str (x.target.take 250)), .int .i64 x.size, .slice a x.parts.length c] := by rw [HX.out]; rfl
    rw [eY] at Y0
    have HA6 : ∀ {w'}, Blk w' w.heap.size 24 X → w'.cell? ⟨w.heap.size, 6, none⟩ = some (.slice a x.parts.length c) := fun {w'} hb => by
      rw [HX.out] at hb
      exact hb.cell rfl
    have y6 := Y0.free 6
    have z6 : wc.cell? ⟨w.heap.size + 1 + 1, 6, none⟩ = some (.slice a x.parts.length c) := Y0.cell rfl
    have hset := fun (W' : World) (v : Value) (h1 : Blk W' w.heap.size 24 X) (h2 : Blk W' (w.heap.size + 1) 24 zIT.toList) (h3 : Below w.heap.size w W') => (show Blk (W'.setCell ⟨w.heap.size + 1 + 1, 6, none⟩ v) w.heap.size 24 X ∧ Blk (W'.setCell ⟨w.heap.size + 1 + 1, 6, none⟩ v) (w.heap.size + 1) 24 zIT.toList ∧ Below w.heap.size w (W'.setCell ⟨w.heap.size + 1 + 1, 6, none⟩ v) from by
      have hg := grown_set (⟨rfl, rfl, rfl, Nat.le_refl _, fun _ _ _ => rfl⟩ : W'.grownBy W' (some (w.heap.size + 1 + 1))) 6 v
      exact ⟨h1.grown hg (by omega), h2.grown hg (by omega), Below.grown h3 hg h3.size (fun k hk => by cases hk; omega)⟩)
    have Y1 := Y0.set 6 (.slice none 0 0)
    obtain ⟨A1, R1, hb1⟩ := hset wc (.slice none 0 0) A0 R0 hb0
    have hI0 : Hid (CutR w x X 0 none 0 (wc.setCell ⟨w.heap.size + 1 + 1, 6, none⟩ (.slice none 0 0))) := by
      show CutR _ _ _ _ _ _ _
      exact ⟨Y1, A1, R1, hb1, World.ownsRow_nil _ _ _ _, by have := Y1.lt; omega⟩
    clear Y0 A0 R0 hb0 eY Y1 A1 R1 hb1 hITR
    go_wp2
    go_loopw [4] (fun i wr => ∃ (j : Nat) (a' : Option Addr) (c' : Nat), j ≤ x.parts.length ∧ j ≤ 70 ∧ i = .int .i64 j ∧ Hid (CutR w x X j a' c' wr)) (fun i _ => x.parts.length - (intOf i).toNat)
    case atStart => exact ⟨0, none, 0, Nat.zero_le _, Nat.zero_le _, rfl, hI0⟩
    case round =>
      clear hI0
      obtain ⟨j, a', c', hj, hj70, rfl, hI⟩ := hrel
      obtain ⟨Y, A, R, hb, hO, hsz⟩ := hI.out
      have a6 := HA6 A
      have y6 : wr.cell? ⟨w.heap.size + 1 + 1, 6, none⟩ = some (.slice a' j c') := Y.cell rfl
      have j0 : (0 : Int) ≤ (j : Int) := by omega
      have jb : IntKind.i64.wrap ((j : Int) + 1) = (j : Int) + 1 := IntWalk.i64_in _ (by omega)
      by_cases hlt : j < x.parts.length ∧ j < 70
      · have j1 : (j : Int) < (x.parts.length : Int) := by omega
        have j2 : (j : Int) < 70 := by omega
        have hpo := hok.parts _ (List.getElem_mem hlt.1)
        have hr2 := hr.below hb
        have s1 := hr2.elemSome (s := 33) (prts33I hok.parts) (by decide) (i := j) (by simpa using hlt.1)
        have q1 := ldOp_at (P := Tryd.prog) (ty := 65) (hr2.elem (s := 33) (prts33I hok.parts) (i := j) (c := prtC x.parts[j]) (by simp [hlt.1])) Tryd.underlying65 rfl (by rw [prtC_len hpo]; exact sizePA)
        have hT : Hid (((x.parts.take (j + 1)).map prtC).flatten = ((x.parts.take j).map prtC).flatten ++ prtC x.parts[j]) := by
          show _ = _
          rw [List.take_succ_eq_append_getElem hlt.1, List.map_append, List.flatten_append]; congr 1; simp
        have p33 : (List.toArray (prtC x.parts[j])).size = 33 := by simpa using prtC_len hpo
        obtain ⟨a2, c2, w2, happ, hO2, hG2⟩ := own_appS (ty := 22) ePA (by decide) hO (prtC x.parts[j]) (prtC_len hpo) (prtC_one _) (by unfold maxLen; omega) (by omega) hsz
        have hlo := own_lt hO
        have Y2 := hG2.blkB Y hlo (by omega)
        have A2 := hG2.blkB A hlo (by omega)
        have R2 := hG2.blkB R hlo (by omega)
        have hb2 := hb.trans (hG2.below hlo (old := w.heap.size) (by omega) (by omega))
        have fz := Y2.free 6
        have z6 : w2.cell? ⟨w.heap.size + 1 + 1, 6, none⟩ = some (.slice a' j c') := Y2.cell rfl
        have Y3 := Y2.set 6 (.slice a2 (j + 1) c2)
        obtain ⟨A3, R3, hb3⟩ := hset w2 (.slice a2 (j + 1) c2) A2 R2 hb2
        have hO3 := ownsRow_setCell_other hO2 (a := ⟨w.heap.size + 1 + 1, 6, none⟩) (fun e => by have := own_lt hO2 _ e; simp at this; omega) (.slice a2 (j + 1) c2)
        have hnext : Hid (CutR w x X (j + 1) a2 c2 (w2.setCell ⟨w.heap.size + 1 + 1, 6, none⟩ (.slice a2 (j + 1) c2))) := by
          show CutR _ _ _ _ _ _ _
          exact ⟨Y3, A3, R3, hb3, by rw [hT.out]; exact hO3, by have := hG2.size; simp; omega⟩
        generalize prtC x.parts[j] = E at *
        clear Y Y2 Y3 A A2 A3 R R2 R3 hb hb2 hb3 hO hO2 hO3 hT hI hr2 hpo
        go_wp2_with (at_builtin; refine wpList_append_run happ rfl rfl rfl rfl ?_)
        first
          | exact ⟨⟨j + 1, a2, c2, by omega, by omega, (by first | rfl | go_num | (congr 1; omega)), hnext⟩, by simp [intOf] <;> omega⟩
          | (refine ⟨?_, by simp [intOf] <;> omega⟩; (repeat apply Exists.intro); exact ⟨⟨j + 1, a2, c2, by omega, by omega, (by first | rfl | go_num | (congr 1; omega)), hnext⟩, rfl⟩)
      · have hfin : Hid (j = (x.parts.take 70).length ∧ x.parts.take j = x.parts.take 70) := by
          have e : j = (x.parts.take 70).length := by simp; omega
          refine ⟨e, ?_⟩
          by_cases h : x.parts.length ≤ 70
          · rw [List.take_of_length_le (l := x.parts) h, List.take_of_length_le]; omega
          · have : j = 70 := by omega
            rw [this]
        have hxo : ItmOk (cutI x) := ⟨hok.kind, hok.mode, hok.time, hok.size, by have := hok.path; show (x.path.take 250).length ≤ _; simp; omega, by have := hok.target; show (x.target.take 250).length ≤ _; simp; omega, fun p hp => hok.parts p (List.mem_of_mem_take hp)⟩
        obtain ⟨Z, hZ⟩ : ∃ Z : List Value, Z = [.string (str (x.path.take 250)), .int .i64 x.kind, .int .i64 x.mode, .int .i64 x.time, .string (str (x.target.take 250)), .int .i64 x.size, .slice a' j c'] := ⟨_, rfl⟩
        rw [← hZ] at Y
        have hZ7 : (List.toArray Z).size = 7 := by rw [hZ]; rfl
        have hZo : OneC (List.toArray Z) := all_oneCell_toArray (by rw [hZ]; intro u hu; simp at hu; rcases hu with rfl | rfl | rfl | rfl | rfl | rfl | rfl <;> rfl)
        have Z1 := ldOp_all (P := Tryd.prog) (ty := 24) Y Tryd.underlying24 rfl (by rw [hZ]; exact sizeIT)
        have hst := st_rowI R (by rfl) (List.toArray Z) hZ7 hZo
        have HB2 := setRow_blk R Z
        have HG2 := setRow_gr wr (w.heap.size + 1) (List.toArray Z)
        have HV : Hid (ItP (fun b => w.heap.size ≤ b) (wr.setRow (w.heap.size + 1) (List.toArray Z)) Z (cutI x) ∧ Below w.heap.size w (wr.setRow (w.heap.size + 1) (List.toArray Z))) := by
          obtain ⟨a9, c9, e9, k1, k2, k3, k4⟩ := owns_rowN hO (by decide)
          simp only [Value.slice.injEq] at e9
          obtain ⟨rfl, _, rfl⟩ := e9
          refine ⟨⟨a', c', ?_, ?_, k2, ?_, hxo, fun h0 => ?_⟩, Below.grown hb HG2 hb.size (fun k hk => by cases hk; omega)⟩
          · rw [hZ]; unfold itC strV cutI
            rw [hfin.out.1]
          · show (x.parts.take 70).length ≤ _
            rw [← hfin.out.1]; exact k1
          · show Row _ _ ((x.parts.take 70).map prtC).flatten
            rw [← hfin.out.2]
            exact k3.keptFar HG2 (fun h0 e => by
              have h1 := (k4 h0).2.1
              simp at e
              omega)
          · have h1 := (k4 (by
              rw [hfin.out.2]
              show 0 < ((cutI x).parts.map prtC).flatten.length
              rw [flatten_len (s := 33) (prts33I hxo.parts), List.length_map]
              have : 0 < (x.parts.take 70).length := h0
              omega)).2.1
            omega
        clear Y A R hO hI hfin hxo hb HG2 hr hZ hZo
        by_cases hj1 : j < x.parts.length
        · have j1 : (j : Int) < (x.parts.length : Int) := by omega
          have j2 : ¬ (j : Int) < 70 := by omega
          go_wp2
          exact bodyPost_ret (results_cell_row (fn := Tryd.f9) (by rfl) _ _ (w.heap.size + 1) 24 _ (0, 0) _ (by rfl) HB2 Tryd.underlying24 rfl (by rw [hZ7]; exact sizeIT)) rfl ⟨Z, rfl, HV.out⟩
        · have j1 : ¬ (j : Int) < (x.parts.length : Int) := by omega
          go_wp2
          exact bodyPost_ret (results_cell_row (fn := Tryd.f9) (by rfl) _ _ (w.heap.size + 1) 24 _ (0, 0) _ (by rfl) HB2 Tryd.underlying24 rfl (by rw [hZ7]; exact sizeIT)) rfl ⟨Z, rfl, HV.out⟩
end Go.Proofs.YtpchogicdnfggaaDoor
set_option maxRecDepth 20000
namespace Go.Proofs.YtpchogicdnfggaaDoor
open Go.RowKit Go.Hd
theorem cell_field {w : World} {a : Addr} {i j : Nat} {v : Value} (h : w.cell? (a.add (i + j)) = some v) : w.cell? ⟨(a.add i).block, (a.add i).off + j, none⟩ = some v := by
  unfold World.cell? Addr.add at *
  by_cases hi : i = 0 <;> by_cases hj : j = 0 <;> simp [hi, hj, Nat.add_assoc] at h ⊢
  · cases hb : w.heap[a.block]? with
    | none => rw [hb] at h; cases h
    | some o =>
      rw [hb] at h
      cases o with
      | cells c e f =>
        simp only at h ⊢
        split at h
        · cases h
        · exact h
      | _ => cases h
  all_goals exact h
end Go.Proofs.YtpchogicdnfggaaDoor
set_option maxRecDepth 20000
namespace Go.Proofs.YtpchogicdnfggaaDoor
open Go.RowKit Go.Hd
section
variable (ρ : Operand → Value) (dst : Option Tmp) (ty : TypeId) (pos : String) (after : Array Edge) (guard : Option (Nat × Bool))
theorem h_bsLVn (n : Nat) (parts : Array (Nat × Operand)) : execOp ρ { dst, op := .buildSlice 28 n parts, type := ty, pos, after, guard } = (do pure (.value (← bsOp 28 n (parts.map fun (i, x) => (i, ρ x))))) := rfl
end
attribute [local go_sem ↓] h_ldV h_stV h_alV h_ldIT h_bsLVn
attribute [local go_sem] r_ldV r_stV r_alV r_bsV1
theorem checkI_kind (x : Itm) (h : checkI x = 0) : x.kind = 1 ∨ x.kind = 2 ∨ x.kind = 3 := by
  by_cases h1 : x.kind = 1
  · exact .inl h1
  · by_cases h2 : x.kind = 2
    · exact .inr (.inl h2)
    · by_cases h3 : x.kind = 3
      · exact .inr (.inr h3)
      · exfalso
        unfold checkI at h
        have hf : fitsF x = false := by unfold fitsF; rw [if_neg h1, if_neg h2, if_neg h3]
        rw [hf] at h
        by_cases h0 : checkF x.path ≠ 0
        · rw [if_pos h0] at h; exact h0 h
        · rw [if_neg h0] at h
          split at h <;> simp at h
end Go.Proofs.YtpchogicdnfggaaDoor
