/- Joined: what one statement of this layer stands on, part 3 of 26; nothing is assumed. -/
import Derived.Test.YtpchogicdnfggaaGreatDoorRows
import Derived.Test.YtpchogicdnfggaaGreatDoorKI1
import Derived.Test.YtpchogicdnfggaaGreatDoorKI2
set_option maxRecDepth 20000
namespace Go.Hd
open Go Go.RowKit

/-- A text, cut at each '/'. -/
def cutP : List UInt8 → List (List UInt8)
  | [] => [[]]
  | c :: s => if c = 47 then [] :: cutP s else match cutP s with
    | [] => [[c]]
    | p :: ps => (c :: p) :: ps
theorem cutP_ne (s : List UInt8) : cutP s ≠ [] := by
  cases s with
  | nil => simp [cutP]
  | cons c s =>
    unfold cutP
    split
    · simp
    · split <;> simp
theorem cutP_sep (s : List UInt8) : cutP (47 :: s) = [] :: cutP s := by
  show (if (47 : UInt8) = 47 then [] :: cutP s else _) = _
  rw [if_pos rfl]
theorem cutP_cons {c : UInt8} (h : c ≠ 47) (s : List UInt8) : ∃ p ps, cutP s = p :: ps ∧ cutP (c :: s) = (c :: p) :: ps := by
  have hn := cutP_ne s
  cases hs : cutP s with
  | nil => exact absurd hs hn
  | cons p ps =>
    refine ⟨p, ps, rfl, ?_⟩
    show (if c = 47 then [] :: cutP s else match cutP s with | [] => [[c]] | p :: ps => (c :: p) :: ps) = _
    rw [if_neg h, hs]
theorem cutP_app : ∀ (p s : List UInt8), 47 ∉ p → cutP (p ++ 47 :: s) = p :: cutP s
  | [], s, _ => cutP_sep s
  | c :: p, s, h => by
    have hc : c ≠ 47 := fun e => h (by rw [e]; simp)
    obtain ⟨q, qs, h1, h2⟩ := cutP_cons hc (p ++ 47 :: s)
    rw [cutP_app p s (fun e => h (List.mem_cons_of_mem _ e))] at h1
    injection h1 with h1 h3
    rw [List.cons_append, h2, ← h1, ← h3]
theorem cutP_one : ∀ (p : List UInt8), 47 ∉ p → cutP p = [p]
  | [], _ => rfl
  | c :: p, h => by
    have hc : c ≠ 47 := fun e => h (by rw [e]; simp)
    obtain ⟨q, qs, h1, h2⟩ := cutP_cons hc p
    rw [cutP_one p (fun e => h (List.mem_cons_of_mem _ e))] at h1
    injection h1 with h1 h3
    rw [h2, ← h1, ← h3]
theorem cutP_no : ∀ (s : List UInt8), ∀ p ∈ cutP s, 47 ∉ p
  | [], p, h => by simp [cutP] at h; subst h; simp
  | c :: s, p, h => by
    by_cases hc : c = 47
    · subst hc
      rw [cutP_sep] at h
      rcases List.mem_cons.1 h with rfl | h
      · simp
      · exact cutP_no s p h
    · obtain ⟨q, qs, h1, h2⟩ := cutP_cons hc s
      have ih := cutP_no s
      rw [h1] at ih
      rw [h2] at h
      rcases List.mem_cons.1 h with rfl | h
      · intro e
        rcases List.mem_cons.1 e with e | e
        · exact hc e.symm
        · exact ih q (by simp) e
      · exact ih p (List.mem_cons_of_mem _ h)
/-- '/' between. -/
def joinP : List (List UInt8) → List UInt8
  | [] => []
  | [p] => p
  | p :: q :: r => p ++ 47 :: joinP (q :: r)
theorem joinP_cons (p : List UInt8) {r : List (List UInt8)} (h : r ≠ []) : joinP (p :: r) = p ++ 47 :: joinP r := by
  cases r with
  | nil => exact absurd rfl h
  | cons q r => rfl
theorem joinP_cutP : ∀ s : List UInt8, joinP (cutP s) = s
  | [] => rfl
  | c :: s => by
    have ih := joinP_cutP s
    by_cases hc : c = 47
    · subst hc
      rw [cutP_sep, joinP_cons _ (cutP_ne s), ih]; rfl
    · obtain ⟨q, qs, h1, h2⟩ := cutP_cons hc s
      rw [h1] at ih
      rw [h2, ← ih]
      cases qs with
      | nil => rfl
      | cons r rs => rfl
/-- A part. -/
def partB (p : List UInt8) : Bool := p != [] && decide (p.length ≤ 60) && p != [46] && p != [46, 46] && !p.contains 0 && !p.contains 47
def checkF (s : List UInt8) : Int := if 200 < s.length then 8 else if (cutP s).all partB then 0 else 8
theorem checkF_cases (s : List UInt8) : checkF s = 0 ∨ checkF s = 8 := by
  unfold checkF
  split
  · exact .inr rfl
  · split
    · exact .inl rfl
    · exact .inr rfl
/-! The order. -/
/-- Piece by piece. -/
def lessL : List (List UInt8) → List (List UInt8) → Bool
  | _, [] => false
  | [], _ :: _ => true
  | x :: a, y :: b => if x = y then lessL a b else Op.bytesLess x y
def lessF (a b : List UInt8) : Bool := lessL (cutP a) (cutP b)
end Go.Hd
set_option maxRecDepth 20000
namespace Go.Hd
open Go Go.RowKit

theorem idx_mem : ∀ (l : List UInt8) (c : UInt8), decide (0 ≤ Lib.indexByte l c) = l.contains c
  | [], c => rfl
  | b :: l, c => by
    have ih := idx_mem l c
    have hg := Lib.indexByte_ge l c
    unfold Lib.indexByte
    by_cases h : b = c
    · subst h; simp
    · rw [if_neg (by simpa using h)]
      have h2 : ((b :: l).contains c) = l.contains c := by simp [Ne.symm h]
      rw [h2, ← ih]
      by_cases hm : Lib.indexByte l c = -1
      · rw [if_pos (by simpa using hm), hm]
      · rw [if_neg (by simpa using hm)]
        rw [decide_eq_true (by omega), decide_eq_true (by omega)]
theorem idx_at : ∀ (p s : List UInt8) (c : UInt8), c ∉ p → Lib.indexByte (p ++ c :: s) c = p.length
  | [], s, c, _ => by simp [Lib.indexByte]
  | b :: p, s, c, h => by
    have hb : b ≠ c := fun e => h (by simp [e])
    have ih := idx_at p s c (fun e => h (List.mem_cons_of_mem _ e))
    rw [List.cons_append]
    unfold Lib.indexByte
    rw [if_neg (by simpa using hb), ih, if_neg (by simp)]
    simp
theorem splitK_cut : ∀ (n : Nat) (l : List UInt8), l.length ≤ n → Lib.splitK [47] 0 (l.count 47) l = cutP l := by
  intro n
  induction n with
  | zero =>
    intro l h
    obtain rfl : l = [] := List.eq_nil_of_length_eq_zero (by omega)
    rfl
  | succ n ih =>
    intro l h
    by_cases hm : (47 : UInt8) ∈ l
    · obtain ⟨p, s, rfl, hp⟩ := List.eq_append_cons_of_mem hm
      have h1 : Lib.index (p ++ 47 :: s) [47] = (p.length : Int) := by rw [Lib.index_one]; exact idx_at p s 47 hp
      have h2 : (p ++ 47 :: s).count 47 = s.count 47 + 1 := by
        rw [List.count_append, List.count_eq_zero.2 hp, List.count_cons_self, Nat.zero_add]
      have h3 : s.length ≤ n := by simp at h; omega
      rw [h2, cutP_app p s hp]
      unfold Lib.splitK
      rw [h1, if_neg (by simp), Int.toNat_natCast, Nat.add_zero, List.take_left' rfl, List.length_singleton, ← ih s h3]
      congr 2
      rw [show p.length + 1 = (p ++ [47]).length by simp, show p ++ 47 :: s = (p ++ [47]) ++ s by simp, List.drop_left' rfl]
    · rw [List.count_eq_zero.2 hm, cutP_one l hm]; rfl
theorem str_map {L : List ByteArray} {M : List (List UInt8)} (h : L.map (·.data.toList) = M) : L = M.map str := by
  subst h
  rw [List.map_map]
  induction L with
  | nil => rfl
  | cons x L ih =>
    rw [List.map_cons, ← ih]
    congr 1
theorem splitB_cut (l : List UInt8) : Lib.splitB ⟨#[47]⟩ 0 (Lib.countB (str l) ⟨#[47]⟩) (str l) = (cutP l).map str := by
  refine str_map ?_
  rw [Lib.splitB_data]
  have h1 : Lib.countB (str l) ⟨#[47]⟩ = l.count 47 := by
    show Lib.count (str l).data.toList [47] = _
    rw [Lib.count_one, str_data]
  rw [h1, str_data]
  exact splitK_cut _ l (Nat.le_refl _)
theorem cutP_len (l : List UInt8) : (cutP l).length ≤ l.length + 1 := by
  induction l with
  | nil => simp [cutP]
  | cons c l ih =>
    by_cases hc : c = 47
    · subst hc; rw [cutP_sep]; simp; omega
    · obtain ⟨q, qs, h1, h2⟩ := cutP_cons hc l
      rw [h1] at ih
      rw [h2]; simp at ih ⊢; omega
end Go.Hd
namespace Go.Proofs.YtpchogicdnfggaaGreatDoor
open Go.RowKit Go.Hd

theorem contains_any (l : List UInt8) (c : UInt8) (w : World) :
    Calls Tryz.prog 91 #[.string (str l), .string ⟨#[c]⟩] w fun e w' => e = .returned (.bool (l.contains c)) ∧ w = w' :=
  (Tryz.strings_Contains_one (str l) c w).mono fun e w' ⟨h1, h2⟩ => ⟨by rw [h1, str_data, idx_mem], h2.symm⟩
theorem infoStr : (Tryz.prog.info? 9).map (fun i => (i.zero, i.size, i.bytes)) = some (some (.string ByteArray.empty), 1, 16) := by kernel_rfl
theorem split_any (l : List UInt8) (w : World) (hl : l.length ≤ 1000000) :
    Calls Tryz.prog 87 #[.string (str l), .string ⟨#[47]⟩] w fun e w' => e = .returned (.slice (some ⟨w.heap.size, 0, none⟩) (cutP l).length (cutP l).length) ∧ w' = w.alloc (.cells ((cutP l).map strV).toArray 9) := by
  have hs : (str l).size = l.length := str_size l
  have hle := Lib.countB_le ⟨#[47]⟩ (by decide) (str l).size (str l) (Nat.le_refl _)
  have hlen := Lib.splitB_all ⟨#[47]⟩ (by decide) 0 _ (str l) rfl
  have c := Any.strings_genSplit_core Tryz.lays221 infoStr (str l) ⟨#[47]⟩ 0 (-1) (Lib.countB (str l) ⟨#[47]⟩ + 1) w (by rw [hs]; omega) (by decide) (Nat.zero_le _)
    (fun x c _ => (Tryz.strings_Index_one x 47 _).mono fun e w' ⟨h1, h2⟩ => ⟨by rw [h1]; congr 3; exact (Lib.index_one _ _).symm, h2⟩)
    ((Tryz.strings_Count_one (str l) 47 w).mono fun e w' ⟨h1, h2⟩ => ⟨by rw [h1]; congr 3; exact (Lib.count_one 47 (str l).data.toList).symm, h2⟩) (by decide) (by decide) (by rw [if_pos (by decide)]; omega)
  rw [Nat.add_sub_cancel, hlen] at c
  have e2 : Lib.cellsOf (Lib.splitB ⟨#[47]⟩ 0 (Lib.countB (str l) ⟨#[47]⟩) (str l)) (Lib.countB (str l) ⟨#[47]⟩ + 1) = ((Lib.splitB ⟨#[47]⟩ 0 (Lib.countB (str l) ⟨#[47]⟩) (str l)).map Value.string).toArray := by rw [← hlen]; exact Lib.cellsOf_full _
  rw [e2, ← hlen, splitB_cut, List.length_map, List.map_map] at c
  go_enter Tryz.func87, Tryz.ntmps87
  go_wp2_with fail
  refine c.mono ?_
  rintro e w' ⟨rfl, hw⟩
  go_wp2
  go_ret
  exact ⟨rfl, rfl⟩
end Go.Proofs.YtpchogicdnfggaaGreatDoor
set_option maxRecDepth 20000
namespace Go.Hd
theorem str_toList (l : List UInt8) : (str l).toList = l := by rw [Lib.toList_data]; exact str_data l
theorem partB_not {p : List UInt8} (h : p = [] ∨ 60 < p.length ∨ p = [46] ∨ p = [46, 46]) : partB p = false := by
  unfold partB
  rcases h with rfl | h | rfl | rfl
  · rfl
  · rw [decide_eq_false (by omega)]; simp
  · rfl
  · rfl
theorem partB_mid {p : List UInt8} (h1 : p ≠ []) (h2 : p.length ≤ 60) (h3 : p ≠ [46]) (h4 : p ≠ [46, 46]) : partB p = (!p.contains 0 && !p.contains 47) := by
  unfold partB
  rw [decide_eq_true h2]
  have e1 : (p != []) = true := by simpa using h1
  have e3 : (p != [46]) = true := by simpa using h3
  have e4 : (p != [46, 46]) = true := by simpa using h4
  rw [e1, e3, e4]; simp
end Go.Hd
namespace Go.Proofs.YtpchogicdnfggaaGreatDoor
open Go.RowKit Go.Hd

theorem part_any (p : List UInt8) (w : World) :
    Calls Tryz.prog 88 #[.string (str p)] w fun e w' => e = .returned (.bool (partB p)) ∧ w = w' := by
  have hN := Lib.hid (fun h => partB_not (p := p) h)
  have hM := Lib.hid (fun h1 h2 h3 h4 => partB_mid (p := p) h1 h2 h3 h4)
  have hc0 := contains_any p 0 w
  have hc7 := contains_any p 47 w
  have ht := Lib.hid (str_toList p)
  by_cases h1 : p = []
  · have hF := Lib.hid (hN.out (.inl h1))
    have t1 : (str p).toList = [] := by rw [ht.out, h1]
    clear h1 hN hM
    go_enter Tryz.func88, Tryz.ntmps88
    go_wp2_with fail
    go_ret
    exact ⟨by rw [hF.out]; rfl, rfl⟩
  by_cases h2 : p.length ≤ 60
  case neg =>
    have hF := Lib.hid (hN.out (.inr (.inl (by omega))))
    have t1 : ¬ (str p).toList = [] := by rw [ht.out]; exact h1
    have t2 : ¬ (p.length : Int) ≤ 60 := by omega
    clear h1 h2 hN hM
    go_enter Tryz.func88, Tryz.ntmps88
    go_wp2_with fail
    go_ret
    exact ⟨by rw [hF.out]; rfl, rfl⟩
  have t1 : ¬ (str p).toList = [] := by rw [ht.out]; exact h1
  have t2 : (p.length : Int) ≤ 60 := by omega
  by_cases h3 : p = [46]
  · have hF := Lib.hid (hN.out (.inr (.inr (.inl h3))))
    have t3 : (str p).toList = [46] := by rw [ht.out]; exact h3
    clear h1 h2 h3 hN hM
    go_enter Tryz.func88, Tryz.ntmps88
    go_wp2_with fail
    go_ret
    exact ⟨by rw [hF.out]; rfl, rfl⟩
  have t3 : ¬ (str p).toList = [46] := by rw [ht.out]; exact h3
  by_cases h4 : p = [46, 46]
  · have hF := Lib.hid (hN.out (.inr (.inr (.inr h4))))
    have t4 : (str p).toList = [46, 46] := by rw [ht.out]; exact h4
    clear h1 h2 h3 h4 hN hM
    go_enter Tryz.func88, Tryz.ntmps88
    go_wp2_with fail
    go_ret
    exact ⟨by rw [hF.out]; rfl, rfl⟩
  have t4 : ¬ (str p).toList = [46, 46] := by rw [ht.out]; exact h4
  have hF := Lib.hid (hM.out h1 h2 h3 h4)
  have e1 : Hid ((str p).toList.isEmpty = false) := by show _ = _; rw [ht.out]; simpa using h1
  have e3 : Hid (((str p).toList == [46]) = false) := by show _ = _; rw [ht.out]; simpa using h3
  have e4 : Hid (((str p).toList == [46, 46]) = false) := by show _ = _; rw [ht.out]; simpa using h4
  clear h1 h2 h3 h4 hN hM
  generalize p.contains 0 = b0 at *
  generalize p.contains 47 = b7 at *
  go_enter Tryz.func88, Tryz.ntmps88
  go_wp2_with fail
  refine hc0.mono ?_
  rintro e w1 ⟨rfl, rfl⟩
  cases b0
  · go_wp2_with fail
    refine hc7.mono ?_
    rintro e w1 ⟨rfl, rfl⟩
    go_wp2
    go_ret
    refine ⟨(congrArg (fun b => Ending.returned (Value.bool b)) ?_ : _), rfl⟩
    first | (rw [hF.out, e1.out, e3.out, e4.out]; cases b7 <;> rfl) | (rw [hF.out]; cases b7 <;> rfl)
  · go_wp2_with fail
    go_ret
    refine ⟨(congrArg (fun b => Ending.returned (Value.bool b)) ?_ : _), rfl⟩
    first | (rw [hF.out, e1.out, e3.out, e4.out]; cases b7 <;> rfl) | (rw [hF.out]; cases b7 <;> rfl)
theorem add_base (g i : Nat) : (hd (some ⟨g, 0, none⟩)).add i = ⟨g, i, none⟩ := by
  show (⟨g, 0, none⟩ : Addr).add i = _
  rw [Addr.add_mid]; simp
/-- A row of texts that a call made. -/
theorem texts_row {w : World} {ps : List (List UInt8)} : Row (w.alloc (.cells (ps.map strV).toArray 9)) (some ⟨w.heap.size, 0, none⟩) (ps.map strV) := by
  simpa using row_alloc w (ps.map strV).toArray 9 (0, 0)
set_option maxHeartbeats 1000000 in
theorem check_any (s : List UInt8) (w : World) (hs : s.length ≤ 1000000) :
    Calls Tryz.prog 63 #[.string (str s)] w fun e w' => e = .returned (.int .i64 (checkF s)) ∧ Below w.heap.size w w' := by
  by_cases h200 : 200 < s.length
  · have i1 : (200 : Int) < (s.length : Int) := by omega
    have hF : Hid (checkF s = 8) := by show _ = _; unfold checkF; rw [if_pos h200]
    clear h200 hs
    go_enter Tryz.func63, Tryz.ntmps63
    go_wp2
    go_ret
    exact ⟨by rw [hF.out]; rfl, Below.refl _ _⟩
  · have i1 : ¬ (200 : Int) < (s.length : Int) := by omega
    have hF : Hid (checkF s = if (cutP s).all partB then 0 else 8) := by show _ = _; unfold checkF; rw [if_neg h200]
    have hsp := split_any s w (by omega)
    have hcl : (cutP s).length ≤ 1000001 := Nat.le_trans (cutP_len s) (by omega)
    generalize cutP s = ps at *
    clear h200 hs
    have hrow := texts_row (w := w) (ps := ps)
    have hb := (Below.refl w.heap.size w).alloc (Nat.le_refl _) (.cells (ps.map strV).toArray 9)
    go_enter Tryz.func63, Tryz.ntmps63
    go_wp2_with fail
    refine hsp.mono ?_
    rintro e w1 ⟨rfl, rfl⟩
    generalize w.alloc (.cells (ps.map strV).toArray 9) = w1 at *
    obtain ⟨g, hg⟩ : ∃ g, g = w.heap.size := ⟨_, rfl⟩
    rw [← hg] at hrow
    have HG := Lib.hid hg
    simp only [← hg]
    clear hsp hg
    go_wp2
    go_loopw [11] (fun i wr => ∃ j : Nat, j ≤ ps.length ∧ i = .int .i64 j ∧ (ps.take j).all partB = true ∧ Hid (wr = w1)) (fun i _ => ps.length - (intOf i).toNat)
    case atStart => exact ⟨0, Nat.zero_le _, rfl, rfl, Lib.hid rfl⟩
    case round =>
      obtain ⟨j, hj, rfl, hall, hwr⟩ := hrel
      have hwr := hwr.out
      subst hwr
      by_cases hlt : j < ps.length
      · have q1 : wr.cell? ⟨g, j, none⟩ = some (strV ps[j]) := by
          have := hrow.cell (i := j) (u := strV ps[j]) (by simp [hlt])
          rw [add_base] at this; exact this
        unfold strV at q1
        have hpt := part_any ps[j] wr
        have hA : Hid ((ps.take (j + 1)).all partB = partB ps[j]) := by
          show _ = _
          rw [List.take_succ_eq_append_getElem hlt, List.all_append, hall]; simp
        have hN : Hid (partB ps[j] = false → ps.all partB = false) := fun h => by
          rcases Bool.eq_false_or_eq_true (ps.all partB) with h2 | h2
          · rw [List.all_eq_true.1 h2 _ (List.getElem_mem hlt)] at h; cases h
          · exact h2
        have j0 : (0 : Int) ≤ (j : Int) := by omega
        have j1 : (j : Int) < (ps.length : Int) := by omega
        have jb : IntKind.i64.wrap ((j : Int) + 1) = (j : Int) + 1 := IntWalk.i64_in _ (by omega)
        generalize ps[j] = p at *
        generalize partB p = bb at *
        clear hall
        go_wp2_with fail
        refine hpt.mono ?_
        rintro e w2 ⟨rfl, rfl⟩
        cases bb
        · go_wp2
          go_ret
          exact ⟨by rw [hF.out, hN.out (by first | rfl | trivial)]; rfl, hb⟩
        · go_wp2
          first
            | exact ⟨⟨j + 1, by omega, (by first | rfl | go_num | (congr 1; omega)), hA.out, (by first | exact Lib.hid rfl | exact Lib.hid trivial)⟩, by simp [intOf] <;> omega⟩
            | (refine ⟨?_, by simp [intOf] <;> omega⟩; (repeat apply Exists.intro); exact ⟨⟨j + 1, by omega, (by first | rfl | go_num | (congr 1; omega)), hA.out, (by first | exact Lib.hid rfl | exact Lib.hid trivial)⟩, rfl⟩)
      · obtain rfl : j = ps.length := by omega
        rw [List.take_length] at hall
        go_wp2
        go_ret
        exact ⟨by rw [hF.out, hall]; rfl, hb⟩
end Go.Proofs.YtpchogicdnfggaaGreatDoor
set_option maxRecDepth 20000
namespace Go.Hd
structure Itm where
  path : List UInt8
  kind : Int
  mode : Int
  time : Int
  target : List UInt8
  size : Int
  parts : List Prt
structure ItmOk (x : Itm) : Prop where
  kind : in64 x.kind
  mode : in64 x.mode
  time : in64 x.time
  size : in64 x.size
  path : x.path.length ≤ maxLen
  target : x.target.length ≤ maxLen
  parts : ∀ p ∈ x.parts, PrtOk p
def itC (x : Itm) (a : Option Addr) (c : Nat) : List Value := [strV x.path, .int .i64 x.kind, .int .i64 x.mode, .int .i64 x.time, strV x.target, .int .i64 x.size, .slice a x.parts.length c]
def okP (p : Prt) : Bool := decide (1 ≤ p.size) && decide (p.size ≤ 8192)
def sumP : List Prt → Int
  | [] => 0
  | p :: l => p.size + sumP l
def wholeF (x : Itm) : Bool := decide (x.target = []) && (decide (x.parts.length ≤ 64) && (decide (0 ≤ x.size) && (decide (x.size ≤ 262144) && (x.parts.all okP && decide (sumP x.parts = x.size)))))
def emptyF (x : Itm) : Bool := decide (x.parts.length = 0) && decide (x.size = 0)
def linkF (x : Itm) : Bool := !decide (x.target = []) && (decide (x.target.length ≤ 200) && !x.target.contains 0)
def fitsF (x : Itm) : Bool := if x.kind = 1 then wholeF x else if x.kind = 2 then emptyF x && decide (x.target = []) else if x.kind = 3 then emptyF x && linkF x else false
def modeF (x : Itm) : Bool := decide (0 ≤ x.mode) && (decide (x.mode ≤ 4095) && (decide (-1099511627776 ≤ x.time) && decide (x.time ≤ 1099511627776)))
def checkI (x : Itm) : Int := if checkF x.path ≠ 0 then checkF x.path else if modeF x = true then (if fitsF x = true then 0 else 2) else 2
theorem str_nil (t : List UInt8) : ((str t).toList == ([] : List UInt8)) = decide (t = []) := by
  cases t with
  | nil => simp [str]
  | cons a l => simp [str]
theorem sumP_snoc : ∀ (l : List Prt) (p : Prt), sumP (l ++ [p]) = sumP l + p.size
  | [], p => by simp [sumP]
  | q :: l, p => by rw [List.cons_append, sumP, sumP_snoc l p, sumP]; omega
theorem sumP_bound : ∀ (l : List Prt), l.all okP = true → 0 ≤ sumP l ∧ sumP l ≤ 8192 * l.length
  | [], _ => by simp [sumP]
  | p :: l, h => by
    rw [List.all_cons, Bool.and_eq_true] at h
    have ih := sumP_bound l h.2
    have hp := h.1
    unfold okP at hp
    simp at hp
    rw [sumP, List.length_cons]
    constructor <;> omega
theorem str_nil2 (t : List UInt8) : (str t).toList.isEmpty = decide (t = []) := by
  cases t with
  | nil => simp [str]
  | cons a l => simp [str]
end Go.Hd
namespace Go.Proofs.YtpchogicdnfggaaGreatDoor
open Go.RowKit Go.Hd
theorem prts33I {l : List Prt} (hok : ∀ x ∈ l, PrtOk x) : ∀ x ∈ l.map prtC, x.length = 33 := fun x hx => by
  obtain ⟨y, hy, rfl⟩ := List.mem_map.1 hx
  exact prtC_len (hok y hy)
theorem prt_cellI {w : World} {a : Option Addr} {l : List Prt} (hr : Row w a (l.map prtC).flatten) (hok : ∀ x ∈ l, PrtOk x) {j : Nat} (hj : j < l.length) {k : Nat} {v : Value} (h : (prtC l[j])[k]? = some v) : w.cell? (((hd a).add (j * 33)).add k) = some v :=
  hr.elem (s := 33) (prts33I hok) (i := j) (c := prtC l[j]) (by simp [hj]) k v h
theorem empty_any {x : Itm} {a : Option Addr} {c : Nat} {w : World} : Calls Tryz.prog 90 #[.agg (List.toArray (itC x a c))] w fun e w' => e = .returned (.bool (emptyF x)) ∧ Below w.heap.size w w' := by
  have hE : Hid (emptyF x = (decide (x.parts.length = 0) && decide (x.size = 0))) := rfl
  unfold itC strV
  generalize emptyF x = E at *
  generalize str x.path = sp at *
  generalize str x.target = st at *
  generalize x.parts.length = n at *
  generalize x.size = z at *
  by_cases h1 : n = 0
  · subst h1
    by_cases h2 : z = 0
    · subst h2
      have hT : Hid (E = true) := hE.out
      go_enter Tryz.func90, Tryz.ntmps90
      go_wp2
      go_ret
      exact ⟨by rw [hT.out] <;> rfl, (Below.refl _ _).alloc (Nat.le_refl _) _⟩
    · have e2 : (z == 0) = false := by simpa using h2
      have hT : Hid (E = false) := by show _ = _; rw [hE.out]; simp [h2]
      clear hE
      go_enter Tryz.func90, Tryz.ntmps90
      go_wp2
      go_ret
      exact ⟨by rw [hT.out] <;> rfl, (Below.refl _ _).alloc (Nat.le_refl _) _⟩
  · have e1 : ((n : Int) == 0) = false := by simp; omega
    have hT : Hid (E = false) := by show _ = _; rw [hE.out]; simp [h1]
    clear hE
    go_enter Tryz.func90, Tryz.ntmps90
    go_wp2
    go_ret
    exact ⟨by rw [hT.out] <;> rfl, (Below.refl _ _).alloc (Nat.le_refl _) _⟩
attribute [local go_sem ↓] h_ldPA h_stPA h_alPA
attribute [local go_sem] r_ldPA r_stPA r_alPA
set_option maxHeartbeats 2000000 in
theorem whole_any {x : Itm} {a : Option Addr} {c : Nat} {w : World} (hr : Row w a (x.parts.map prtC).flatten) (hok : ItmOk x) (hl : x.parts.length ≤ 100000) : Calls Tryz.prog 89 #[.agg (List.toArray (itC x a c))] w fun e w' => e = .returned (.bool (wholeF x)) ∧ Below w.heap.size w w' := by
  have zp := zPA_size
  have hE : Hid (wholeF x = (decide (x.target = []) && (decide (x.parts.length ≤ 64) && (decide (0 ≤ x.size) && (decide (x.size ≤ 262144) && (x.parts.all okP && decide (sumP x.parts = x.size))))))) := rfl
  have n1 := str_nil x.target
  have n2 := str_nil2 x.target
  have hpo := hok.parts
  have hb0 : Below w.heap.size w (w.alloc (.cells (List.toArray (itC x a c)) 40)) := (Below.refl _ _).alloc (Nat.le_refl _) _
  have hr0 := hr.below hb0
  clear hr hok
  unfold itC strV at *
  generalize wholeF x = E at *
  generalize str x.path = sp at *
  generalize str x.target = st at *
  generalize hTb : decide (x.target = []) = Tb at *
  clear hTb
  generalize x.size = z at *
  generalize x.parts = l at *
  cases Tb
  · have hT : Hid (E = false) := by show _ = _; rw [hE.out]; rfl
    clear hE
    go_enter Tryz.func89, Tryz.ntmps89
    go_wp2
    go_ret
    exact ⟨by rw [hT.out] <;> rfl, hb0⟩
  · by_cases h1 : l.length ≤ 64
    case neg =>
      have e1 : (64 : Int) < (l.length : Int) := by omega
      have hT : Hid (E = false) := by show _ = _; rw [hE.out]; simp [h1]
      clear hE
      go_enter Tryz.func89, Tryz.ntmps89
      go_wp2
      go_ret
      exact ⟨by rw [hT.out] <;> rfl, hb0⟩
    case pos =>
    have e1 : ¬ (64 : Int) < (l.length : Int) := by omega
    by_cases h2 : 0 ≤ z
    case neg =>
      have e2 : z < 0 := by omega
      have hT : Hid (E = false) := by show _ = _; rw [hE.out]; simp [h2]
      clear hE
      go_enter Tryz.func89, Tryz.ntmps89
      go_wp2
      go_ret
      exact ⟨by rw [hT.out] <;> rfl, hb0⟩
    case pos =>
    have e2 : ¬ z < 0 := by omega
    by_cases h3 : z ≤ 262144
    case neg =>
      have e3 : 262144 < z := by omega
      have hT : Hid (E = false) := by show _ = _; rw [hE.out]; simp [h3]
      clear hE
      go_enter Tryz.func89, Tryz.ntmps89
      go_wp2
      go_ret
      exact ⟨by rw [hT.out] <;> rfl, hb0⟩
    case pos =>
    have e3 : ¬ 262144 < z := by omega
    have hF : Hid (E = (l.all okP && decide (sumP l = z))) := by show _ = _; rw [hE.out]; simp [h1, h2, h3]
    clear hE h1
    go_enter Tryz.func89, Tryz.ntmps89
    go_upto_region 5 with (fail)
    have hBx : Blk (w.alloc (.cells #[.string sp, .int .i64 x.kind, .int .i64 x.mode, .int .i64 x.time, .string st, .int .i64 z, .slice a l.length c] 40)) w.heap.size 40 [.string sp, .int .i64 x.kind, .int .i64 x.mode, .int .i64 x.time, .string st, .int .i64 z, .slice a l.length c] := Blk.new _ _ _
    generalize w.alloc (.cells #[.string sp, .int .i64 x.kind, .int .i64 x.mode, .int .i64 x.time, .string st, .int .i64 z, .slice a l.length c] 40) = W at *
    have HR0 := Lib.hid hr0
    have HB0 := Lib.hid hb0
    have HBx := Lib.hid hBx
    have HL := Lib.hid hl
    clear hr0 hb0 hBx hl
    go_wp2
    go_loopw [3, 28] (fun u i wr => ∃ j : Nat, j ≤ l.length ∧ i = .int .i64 j ∧ u = .int .i64 (sumP (l.take j)) ∧ Hid ((l.take j).all okP = true) ∧ Hid (Below W.heap.size W wr)) (fun _ i _ => l.length - (intOf i).toNat)
    case atStart => exact ⟨0, Nat.zero_le _, rfl, rfl, Lib.hid rfl, Lib.hid (Below.refl _ _)⟩
    case round =>
      obtain ⟨j, hj, rfl, rfl, hA, hbr⟩ := hrel
      have j0 : (0 : Int) ≤ (j : Int) := by omega
      have jb : IntKind.i64.wrap ((j : Int) + 1) = (j : Int) + 1 := IntWalk.i64_in _ (by have := HL.out; omega)
      have hsb := sumP_bound _ hA.out
      have hbw := HB0.out.trans (hbr.out.mono HB0.out.size)
      rw [List.length_take] at hsb
      by_cases hlt : j < l.length
      · have j1 : (j : Int) < (l.length : Int) := by omega
        have hr2 := HR0.out.below hbr.out
        have s1 := hr2.elemSome (s := 33) (prts33I hpo) (by decide) (i := j) (by simpa using hlt)
        have hp := hpo _ (List.getElem_mem hlt)
        have q1 := ldOp_at (P := Tryz.prog) (ty := 77) (hr2.elem (s := 33) (prts33I hpo) (i := j) (c := prtC l[j]) (by simp [hlt])) Tryz.underlying77 rfl (by rw [prtC_len hp]; exact sizePA)
        have y1 : (List.toArray (prtC l[j])).size = 33 := by simpa using prtC_len hp
        have y2 : OneC (List.toArray (prtC l[j])) := all_oneCell_toArray (prtC_one _)
        have c32 := prtC_32 hp
        have hT : Hid (l.take (j + 1) = l.take j ++ [l[j]]) := List.take_succ_eq_append_getElem hlt
        have hI : Hid (l[j] ∈ l) := List.getElem_mem hlt
        generalize l[j] = p at *
        have hXB := Blk.new wr 77 (List.toArray (prtC p))
        have hbx : Below wr.heap.size wr (wr.alloc (.cells (List.toArray (prtC p)) 77)) := (Below.refl _ _).alloc (Nat.le_refl _) _
        clear hr2
        go_upto_region 7 with (fail)
        have c5 : (wr.alloc (.cells (List.toArray (prtC p)) 77)).cell? ⟨wr.heap.size, 32, none⟩ = some (.int .i64 p.size) := by
          have hb : Blk (wr.alloc (.cells (List.toArray (prtC p)) 77)) wr.heap.size 77 (prtC p) := by simpa using hXB
          exact hb.cell c32
        have hbx2 := hbw.trans (hbx.mono hbw.size)
        have hbx3 := hbr.out.trans (hbx.mono hbr.out.size)
        clear hXB q1 y1 y2 c32 s1 hp hbx
        generalize wr.alloc (.cells (List.toArray (prtC p)) 77) = w5 at *
        generalize wr.heap.size = qx at *
        by_cases g1 : p.size < 1
        · have hT2 : Hid (E = false) := by
            show _ = _
            rw [hF.out]
            have : l.all okP = false := by
              rw [Bool.eq_false_iff]; intro h
              have := List.all_eq_true.1 h _ hI.out
              unfold okP at this; simp at this; omega
            rw [this]; rfl
          clear hF
          go_wp2
          go_ret
          exact ⟨by rw [hT2.out] <;> rfl, hbx2⟩
        · by_cases g2 : 8192 < p.size
          · have hT2 : Hid (E = false) := by
              show _ = _
              rw [hF.out]
              have : l.all okP = false := by
                rw [Bool.eq_false_iff]; intro h
                have := List.all_eq_true.1 h _ hI.out
                unfold okP at this; simp at this; omega
              rw [this]; rfl
            clear hF
            go_wp2
            go_ret
            exact ⟨by rw [hT2.out] <;> rfl, hbx2⟩
          · have hA2 : Hid ((l.take (j + 1)).all okP = true) := by
              show _ = _
              rw [hT.out, List.all_append, hA.out]; simp [okP]; omega
            have hS2 : Hid (sumP (l.take (j + 1)) = sumP (l.take j) + p.size) := by show _ = _; rw [hT.out, sumP_snoc]
            have sb : IntKind.i64.wrap (sumP (l.take j) + p.size) = sumP (l.take j) + p.size := IntWalk.i64_in _ (by have := HL.out; omega)
            have hbx3h := Lib.hid hbx3
            generalize sumP (l.take j) = S at *
            clear hbx2 hbx3 hI hT hF
            go_wp2
            first
              | exact ⟨⟨j + 1, by omega, (by first | rfl | go_num | (congr 1; omega)), (by first | rw [hS2.out] | (rw [hS2.out]; rfl)), hA2, hbx3h⟩, by simp [intOf] <;> omega⟩
              | (refine ⟨?_, by simp [intOf] <;> omega⟩; (repeat apply Exists.intro); exact ⟨⟨j + 1, by omega, (by first | rfl | go_num | (congr 1; omega)), (by first | rw [hS2.out] | (rw [hS2.out]; rfl)), hA2, hbx3h⟩, rfl⟩)
      · obtain rfl : j = l.length := by omega
        have j1 : ¬ (l.length : Int) < (l.length : Int) := by omega
        have hA2 := hA.out
        rw [List.take_length] at hA2 ⊢
        have hF2 : Hid (E = decide (sumP l = z)) := by show _ = _; rw [hF.out, hA2]; rfl
        have c5 : wr.cell? ⟨w.heap.size, 5, none⟩ = some (.int .i64 z) := (HBx.out.below hbr.out).cell rfl
        clear hA2 hF hsb
        generalize sumP l = S at *
        by_cases hS : S = z
        · have eS : (S == z) = true := by simpa using hS
          have hT2 : Hid (E = true) := by show _ = _; rw [hF2.out]; simp [hS]
          clear hS hF2
          go_wp2
          go_ret
          exact ⟨by rw [hT2.out] <;> rfl, hbw⟩
        · have eS : (S == z) = false := by simpa using hS
          have hT2 : Hid (E = false) := by show _ = _; rw [hF2.out]; simp [hS]
          clear hF2
          go_wp2
          go_ret
          exact ⟨by rw [hT2.out] <;> rfl, hbw⟩
end Go.Proofs.YtpchogicdnfggaaGreatDoor
set_option maxRecDepth 20000
namespace Go.Proofs.YtpchogicdnfggaaGreatDoor
open Go.RowKit Go.Hd
set_option maxHeartbeats 2000000 in
theorem fits_any {x : Itm} {a : Option Addr} {c : Nat} {w : World} (hr : Row w a (x.parts.map prtC).flatten) (hok : ItmOk x) (hl : x.parts.length ≤ 100000) : Calls Tryz.prog 64 #[.agg (List.toArray (itC x a c))] w fun e w' => e = .returned (.bool (fitsF x)) ∧ Below w.heap.size w w' := by
  have hE : Hid (fitsF x = if x.kind = 1 then wholeF x else if x.kind = 2 then emptyF x && decide (x.target = []) else if x.kind = 3 then emptyF x && linkF x else false) := rfl
  have hL : Hid (linkF x = (!decide (x.target = []) && (decide (x.target.length ≤ 200) && !x.target.contains 0))) := rfl
  have hb0 : Below w.heap.size w (w.alloc (.cells (List.toArray (itC x a c)) 40)) := (Below.refl _ _).alloc (Nat.le_refl _) _
  have hw := whole_any (c := c) (hr.below hb0) hok hl
  have he := fun w' => empty_any (x := x) (a := a) (c := c) (w := w')
  have hc := fun w' => contains_any x.target 0 w'
  have n1 := str_nil x.target
  have n2 := str_nil2 x.target
  have n3 : (str x.target).size = x.target.length := str_size _
  clear hr hok hl
  unfold itC strV at *
  generalize fitsF x = F at *
  generalize linkF x = LF at *
  generalize wholeF x = WF at *
  generalize emptyF x = EF at *
  generalize x.target.contains 0 = CF at *
  generalize str x.path = sp at *
  generalize str x.target = st at *
  generalize decide (x.target = []) = Tb at *
  generalize x.target.length = tl at *
  generalize x.parts.length = pl at *
  generalize x.kind = k at *
  generalize x.mode = md at *
  generalize x.time = tm at *
  generalize x.size = sz at *
  by_cases h1 : k = 1
  · subst h1
    have hT : Hid (F = WF) := hE.out
    clear hE
    go_enter Tryz.func64, Tryz.ntmps64
    go_wp2_with fail
    refine hw.mono ?_
    rintro e w2 ⟨rfl, hb2⟩
    go_wp2
    go_ret
    exact ⟨by rw [hT.out] <;> rfl, hb0.trans (hb2.mono hb0.size)⟩
  have e1 : (k == 1) = false := by simpa using h1
  by_cases h2 : k = 2
  · subst h2
    have hT : Hid (F = (EF && Tb)) := hE.out
    clear hE h1
    go_enter Tryz.func64, Tryz.ntmps64
    go_wp2_with fail
    refine (he _).mono ?_
    rintro e w2 ⟨rfl, hb2⟩
    have d4 : w2.cell? ⟨w.heap.size, 4, none⟩ = some (.string st) := ((Blk.new w 40 (List.toArray [.string sp, .int .i64 2, .int .i64 md, .int .i64 tm, .string st, .int .i64 sz, .slice a pl c])).below hb2).cell rfl
    cases EF
    · go_wp2
      go_ret
      exact ⟨by rw [hT.out] <;> rfl, hb0.trans (hb2.mono hb0.size)⟩
    · cases Tb
      · go_wp2
        go_ret
        exact ⟨by rw [hT.out] <;> rfl, hb0.trans (hb2.mono hb0.size)⟩
      · go_wp2
        go_ret
        exact ⟨by rw [hT.out] <;> rfl, hb0.trans (hb2.mono hb0.size)⟩
  have e2 : (k == 2) = false := by simpa using h2
  by_cases h3 : k = 3
  · subst h3
    have hT : Hid (F = (EF && LF)) := hE.out
    clear hE h1 h2
    go_enter Tryz.func64, Tryz.ntmps64
    go_wp2_with fail
    refine (he _).mono ?_
    rintro e w2 ⟨rfl, hb2⟩
    have d4 : w2.cell? ⟨w.heap.size, 4, none⟩ = some (.string st) := ((Blk.new w 40 (List.toArray [.string sp, .int .i64 3, .int .i64 md, .int .i64 tm, .string st, .int .i64 sz, .slice a pl c])).below hb2).cell rfl
    cases EF
    · go_wp2
      go_ret
      exact ⟨by rw [hT.out] <;> rfl, hb0.trans (hb2.mono hb0.size)⟩
    · cases Tb
      · by_cases h4 : tl ≤ 200
        · have e4 : (tl : Int) ≤ 200 := by omega
          have hT2 : Hid (F = !CF) := by show _ = _; rw [hT.out, hL.out]; simp [h4]
          clear hT hL h4
          go_wp2_with fail
          refine (hc _).mono ?_
          rintro e w3 ⟨rfl, hw3⟩
          subst hw3
          cases CF
          · go_wp2
            go_ret
            exact ⟨by rw [hT2.out] <;> rfl, hb0.trans (hb2.mono hb0.size)⟩
          · go_wp2
            go_ret
            exact ⟨by rw [hT2.out] <;> rfl, hb0.trans (hb2.mono hb0.size)⟩
        · have e4 : ¬ (tl : Int) ≤ 200 := by omega
          have hT2 : Hid (F = false) := by show _ = _; rw [hT.out, hL.out]; simp [h4]
          clear hT hL h4
          go_wp2
          go_ret
          exact ⟨by rw [hT2.out] <;> rfl, hb0.trans (hb2.mono hb0.size)⟩
      · have hT2 : Hid (F = false) := by show _ = _; rw [hT.out, hL.out]; rfl
        clear hT hL
        go_wp2
        go_ret
        exact ⟨by rw [hT2.out] <;> rfl, hb0.trans (hb2.mono hb0.size)⟩
  have e3 : (k == 3) = false := by simpa using h3
  have hT : Hid (F = false) := by show _ = _; rw [hE.out]; simp [h1, h2, h3]
  clear hE h1 h2 h3
  go_enter Tryz.func64, Tryz.ntmps64
  go_wp2
  go_ret
  exact ⟨by rw [hT.out] <;> rfl, hb0⟩
theorem sizeIT : (Tryz.prog.info? 40).map (·.size) = some 7 := by kernel_rfl
section
variable (ρ : Operand → Value) (dst : Option Tmp) (ty : TypeId) (pos : String) (after : Array Edge) (guard : Option (Nat × Bool))
theorem h_ldIT (x : Operand) : execOp ρ { dst, op := .load 40 x, type := ty, pos, after, guard } = (do pure (.value (← ldOp 40 (ρ x)))) := rfl
end
attribute [local go_sem ↓] h_ldIT
set_option maxHeartbeats 2000000 in
theorem icheck_any {x : Itm} {a : Option Addr} {c : Nat} {w : World} (hr : Row w a (x.parts.map prtC).flatten) (hok : ItmOk x) (hl : x.parts.length ≤ 100000) (hp : x.path.length ≤ 1000000) : Calls Tryz.prog 39 #[.agg (List.toArray (itC x a c))] w fun e w' => e = .returned (.int .i64 (checkI x)) ∧ Below w.heap.size w w' := by
  have hE : Hid (checkI x = if checkF x.path ≠ 0 then checkF x.path else if modeF x = true then (if fitsF x = true then 0 else 2) else 2) := rfl
  have hM : Hid (modeF x = (decide (0 ≤ x.mode) && (decide (x.mode ≤ 4095) && (decide (-1099511627776 ≤ x.time) && decide (x.time ≤ 1099511627776))))) := rfl
  have hb0 : Below w.heap.size w (w.alloc (.cells (List.toArray (itC x a c)) 40)) := (Below.refl _ _).alloc (Nat.le_refl _) _
  have hpc := check_any x.path (w.alloc (.cells (List.toArray (itC x a c)) 40)) hp
  have hft := fun w' (hb : Below w.heap.size w w') => fits_any (c := c) (hr.below hb) hok hl
  clear hr hok hl hp
  unfold itC strV at *
  generalize checkI x = F at *
  generalize modeF x = MF at *
  generalize fitsF x = FF at *
  generalize checkF x.path = PF at *
  generalize str x.path = sp at *
  generalize str x.target = st at *
  generalize x.parts.length = pl at *
  generalize x.kind = k at *
  generalize x.mode = md at *
  generalize x.time = tm at *
  generalize x.size = sz at *
  go_enter Tryz.func39, Tryz.ntmps39
  go_wp2_with fail
  refine hpc.mono ?_
  rintro e w2 ⟨rfl, hb2⟩
  have hB2 := (Blk.new w 40 (List.toArray [.string sp, .int .i64 k, .int .i64 md, .int .i64 tm, .string st, .int .i64 sz, .slice a pl c])).below hb2
  have d2 : w2.cell? ⟨w.heap.size, 2, none⟩ = some (.int .i64 md) := hB2.cell rfl
  have d3 : w2.cell? ⟨w.heap.size, 3, none⟩ = some (.int .i64 tm) := hB2.cell rfl
  have hbw := hb0.trans (hb2.mono hb0.size)
  have hft2 := hft _ hbw
  clear hft hb2 hb0 hpc
  by_cases h0 : PF = 0
  case neg =>
    have e0 : (PF != 0) = true := by simpa using h0
    have hT : Hid (F = PF) := by show _ = _; rw [hE.out, if_pos h0]
    clear hE h0
    go_wp2
    go_ret
    exact ⟨by rw [hT.out] <;> rfl, hbw⟩
  case pos =>
  subst h0
  have hE2 : Hid (F = if MF = true then (if FF = true then 0 else 2) else 2) := by show _ = _; rw [hE.out, if_neg (by simp)]
  clear hE
  by_cases h1 : 0 ≤ md
  case neg =>
    have e1 : md < 0 := by omega
    have hT : Hid (F = 2) := by show _ = _; rw [hE2.out, hM.out]; simp [h1]
    clear hE2 hM
    go_wp2
    go_ret
    exact ⟨by rw [hT.out] <;> rfl, hbw⟩
  case pos =>
  have e1 : ¬ md < 0 := by omega
  by_cases h2 : md ≤ 4095
  case neg =>
    have e2 : 4095 < md := by omega
    have hT : Hid (F = 2) := by show _ = _; rw [hE2.out, hM.out]; simp [h2]
    clear hE2 hM
    go_wp2
    go_ret
    exact ⟨by rw [hT.out] <;> rfl, hbw⟩
  case pos =>
  have e2 : ¬ 4095 < md := by omega
  by_cases h3 : -1099511627776 ≤ tm
  case neg =>
    have e3 : tm < -1099511627776 := by omega
    have hT : Hid (F = 2) := by show _ = _; rw [hE2.out, hM.out]; simp [h3]
    clear hE2 hM
    go_wp2
    go_ret
    exact ⟨by rw [hT.out] <;> rfl, hbw⟩
  case pos =>
  have e3 : ¬ tm < -1099511627776 := by omega
  by_cases h4 : tm ≤ 1099511627776
  case neg =>
    have e4 : 1099511627776 < tm := by omega
    have hT : Hid (F = 2) := by show _ = _; rw [hE2.out, hM.out]; simp [h4]
    clear hE2 hM
    go_wp2
    go_ret
    exact ⟨by rw [hT.out] <;> rfl, hbw⟩
  case pos =>
  have e4 : ¬ 1099511627776 < tm := by omega
  have hT : Hid (F = if FF = true then 0 else 2) := by show _ = _; rw [hE2.out, hM.out]; simp [h1, h2, h3, h4]
  have ql := ldOp_all (P := Tryz.prog) (ty := 40) hB2 Tryz.underlying40 rfl (by exact sizeIT)
  clear hE2 hM h1 h2 h3 h4
  go_wp2_with fail
  refine hft2.mono ?_
  rintro e w3 ⟨rfl, hb3⟩
  cases FF
  · go_wp2
    go_ret
    exact ⟨by rw [hT.out] <;> rfl, hbw.trans (hb3.mono hbw.size)⟩
  · go_wp2
    go_ret
    exact ⟨by rw [hT.out] <;> rfl, hbw.trans (hb3.mono hbw.size)⟩
end Go.Proofs.YtpchogicdnfggaaGreatDoor
set_option maxRecDepth 20000
namespace Go.Proofs.YtpchogicdnfggaaGreatDoor
open Go.RowKit Go.Hd

theorem big_any (x n : Nat) (w : World) (hx : x < 18446744073709551616) (h1 : 1 ≤ n) (h8 : n ≤ 8) :
    Calls Tryz.prog 40 #[.int .u64 x, .int .i64 n] w fun e w' => ∃ v, e = .returned v ∧ Fresh w w' v (putL x n).reverse := by
  go_enter Tryz.func40, Tryz.ntmps40
  go_wp2_with fail
  refine (put_any _ _ _ hx h1 h8).mono ?_
  rintro e w1 ⟨v, rfl, hown, hb⟩
  rcases owns_bytes hown with ⟨_, h0⟩ | ⟨g, c, rest, rfl, hg, hB, hn, hm, hc⟩
  · have := putL_length x n; rw [h0] at this; simp at this; omega
  go_wp2_with fail
  refine (rev_any g n c (putL x n) rest w1 hB h1 (by simp) (by simp [maxLen]; omega)).mono ?_
  rintro e w2 ⟨rfl, hB2, hg2⟩
  go_wp2
  go_ret
  refine ⟨_, rfl, ?_, hb.trans ?_⟩
  · have h := hB2.ownsB (c := c) hg (by simpa using hn) hm (by simpa using hc)
    simpa using h
  · exact (Below.refl _ _).grown hg2 hb.size (fun k hk => by cases hk; exact hg)
theorem copy_any (a : Option Addr) (n c : Nat) (l : List UInt8) (w : World) (hn : n = l.length) (hl : Row w a (l.map b8)) (hm : l.length ≤ 140737488355328) :
    Calls Tryz.prog 5 #[.slice a n c] w fun e w' => ∃ v, e = .returned v ∧ Fresh w w' v l := by
  subst hn
  obtain ⟨v, w1, hrun, hown, hg⟩ := append_src (ty := 22) eB (World.ownsRow_nil w w.heap.size 5 1) (Src.ofRow eB.ht a l.length c (l.map b8) (by decide) (by simp) hl (bytes_one l)) (by unfold maxLen; omega) (by omega) (Nat.le_refl _)
  go_enter Tryz.func5, Tryz.ntmps5
  go_wp2_with (at_builtin; refine wpList_append_run hrun rfl rfl rfl rfl ?_)
  go_ret
  refine ⟨v, rfl, ?_, Below.ofGrown hg (World.ownsRow_nil w w.heap.size 5 1) (Nat.le_refl _)⟩
  simpa using hown

/-- bytes.Clone: nil stays nil, else memory of its own. -/
theorem clone_any (a : Option Addr) (n c : Nat) (l : List UInt8) (w : World) (hn : n = l.length) (hl : Row w a (l.map b8)) (hm : l.length ≤ 140737488355328) :
    Calls Tryz.prog 23 #[.slice a n c] w fun e w' => ∃ v, e = .returned v ∧ Fresh w w' v l := by
  subst hn
  cases a with
  | none =>
    have h0 : l = [] := by
      rcases List.eq_nil_or_concat l with h | ⟨_, _, h⟩
      · exact h
      · have := hl.1 (by rw [h]; simp); cases this
    subst h0
    have hq : ∀ w, (binOp .eql 22 (.slice none 0 c) (.slice none 0 0)).run Tryz.prog w = .ok (.bool true) w := fun w => Lib.run_eql_slice_nil (P := Tryz.prog) w 22 5 none 0 c 0 0 eB.ht
    go_enter Tryz.func23, Tryz.ntmps23
    go_wp2
    go_ret
    exact ⟨_, rfl, World.ownsRow_nil _ _ _ _, Below.refl _ _⟩
  | some a =>
    have hq := Lib.run_eql_slice_nil (P := Tryz.prog) w 22 5 (some a) l.length c 0 0 eB.ht
    have hB : Blk (w.alloc (.cells #[] 5)) w.heap.size 5 [] := Blk.new w _ #[]
    have ho : (w.alloc (.cells #[] 5)).ownsRow w.heap.size 5 1 (.slice (some ⟨w.heap.size, 0, none⟩) 0 0) 0 [] := World.ownsRow_made w #[] 0 (Nat.le_refl _) (by unfold maxLen; omega) rfl
    have hb0 : Below w.heap.size w (w.alloc (.cells #[] 5)) := (Below.refl _ _).alloc (Nat.le_refl _) _
    obtain ⟨v, w1, hrun, hown, hg⟩ := append_src (ty := 22) eB ho (Src.ofRow eB.ht (some a) l.length c (l.map b8) (by decide) (by simp) (hl.below hb0) (bytes_one l)) (by unfold maxLen; omega) (by omega) (by simp)
    go_enter Tryz.func23, Tryz.ntmps23
    go_wp2_with (at_builtin; refine wpList_append_run hrun rfl rfl rfl rfl ?_)
    go_ret
    refine ⟨v, rfl, ?_, hb0.trans (Below.ofGrown hg ho (by simp))⟩
    simpa using hown

theorem back_any (a : Option Addr) (n c : Nat) (l : List UInt8) (w : World) (hn : n = l.length) (hl : Row w a (l.map b8)) (hm : l.length ≤ 140737488355328) :
    Calls Tryz.prog 16 #[.slice a n c] w fun e w' => ∃ v, e = .returned v ∧ Fresh w w' v l.reverse := by
  subst hn
  go_enter Tryz.func16, Tryz.ntmps16
  go_wp2
  go_loopw [3, 4] (fun b i w' => ∃ k : Nat, k ≤ l.length ∧ i = .int .i64 ((k : Int) - 1) ∧ w'.ownsRow w.heap.size 5 1 b (l.drop k).reverse.length ((l.drop k).reverse.map b8) ∧ Below w.heap.size w w') (fun _ i _ => (intOf i + 1).toNat)
  case atStart => exact ⟨l.length, Nat.le_refl _, rfl, by simpa using World.ownsRow_nil _ _ _ _, Below.refl _ _⟩
  case round =>
    obtain ⟨k, hk, rfl, hown, hb⟩ := hrel
    by_cases hlt : 0 < k
    · have hk1 : k - 1 < l.length := by omega
      have hl1 := hl.below hb
      have c1 := hl1.byte hk1
      have s1 := hl1.byteSome hk1
      have hsz := hb.size
      have hlen : (l.drop k).reverse.length = l.length - k := by simp
      obtain ⟨v', w1, hrun, hown1, hg1⟩ := append_one (ty := 22) eB hown (b8 l[k - 1]) rfl (by unfold maxLen; omega) (by omega) hsz
      have hb1 := hb.trans (Below.ofGrown hg1 hown hsz)
      have HO : Hid (w1.ownsRow w.heap.size 5 1 v' (l.drop (k - 1)).reverse.length ((l.drop (k - 1)).reverse.map b8)) := by
        show w1.ownsRow _ _ _ _ _ _
        have e : l.drop (k - 1) = l[k - 1] :: l.drop k := by rw [List.drop_eq_getElem_cons hk1, Nat.sub_add_cancel (by omega)]
        rw [e]
        simpa using hown1
      obtain ⟨q, rfl⟩ : ∃ q, k = q + 1 := ⟨k - 1, by omega⟩
      simp only [Nat.add_sub_cancel] at *
      have hq : q < l.length := by omega
      clear hown hown1 hg1 hsz hl1 hlen
      go_wp2_with (at_builtin; refine wpList_append_run hrun rfl rfl rfl rfl ?_)
      first
        | exact ⟨⟨q, by omega, (by first | rfl | go_num | (congr 1; omega)), HO.out, hb1⟩, by simp [intOf] <;> omega⟩
        | (refine ⟨?_, by simp [intOf] <;> omega⟩; (repeat apply Exists.intro); exact ⟨⟨q, by omega, (by first | rfl | go_num | (congr 1; omega)), HO.out, hb1⟩, rfl⟩)
    · obtain rfl : k = 0 := by omega
      go_wp2
      go_ret
      exact ⟨_, rfl, hown, hb⟩

theorem get_any (a : Option Addr) (n c : Nat) (l : List UInt8) (w : World) (hn : n = l.length) (hl : Row w a (l.map b8)) (h1 : 1 ≤ l.length) (h8 : l.length ≤ 8) :
    Calls Tryz.prog 98 #[.slice a n c] w fun e w' => e = .returned (.tuple #[.int .u64 (getL l : Int), .bool true]) ∧ w = w' := by
  subst hn
  go_enter Tryz.func98, Tryz.ntmps98
  go_wp2
  go_loop [4, 17] (fun x i => ∃ k : Nat, k ≤ l.length ∧ i = .int .i64 k ∧ x = .int .u64 (getL (l.take k) : Int)) (fun _ i => l.length - (intOf i).toNat)
  case atStart => exact ⟨0, Nat.zero_le _, rfl, rfl⟩
  case round =>
    obtain ⟨k, hk, rfl, rfl⟩ := hrel
    by_cases hlt : k < l.length
    · have c1 := hl.byte hlt
      have s1 := hl.byteSome hlt
      have HS := Lib.hid (get_step l k hlt h8)
      have u1 := u8_le l[k]
      go_wp2
      first
        | exact ⟨⟨k + 1, by omega, (by first | rfl | go_num | (congr 1; omega)), by rw [← HS.out]⟩, by simp [intOf] <;> omega⟩
        | (refine ⟨?_, by simp [intOf] <;> omega⟩; (repeat apply Exists.intro); exact ⟨⟨k + 1, by omega, (by first | rfl | go_num | (congr 1; omega)), by rw [← HS.out]⟩, rfl⟩)
    · obtain rfl : k = l.length := by omega
      go_wp2
      go_ret2
      exact ⟨by simp, rfl⟩
theorem get_none (a : Option Addr) (n c : Nat) (w : World) (h : n < 1 ∨ 8 < n) :
    Calls Tryz.prog 98 #[.slice a n c] w fun e w' => e = .returned (.tuple #[.int .u64 0, .bool false]) ∧ w = w' := by
  rcases h with h | h
  · obtain rfl : n = 0 := by omega
    go_enter Tryz.func98, Tryz.ntmps98
    go_wp2
    go_ret2
    exact ⟨rfl, rfl⟩
  · go_enter Tryz.func98, Tryz.ntmps98
    go_wp2
    go_ret2
    exact ⟨rfl, rfl⟩

theorem rget_none (a : Option Addr) (n c : Nat) (w : World) (h : n < 1 ∨ 8 < n) :
    Calls Tryz.prog 15 #[.slice a n c] w fun e w' => e = .returned (.tuple #[.int .u64 0, .bool false]) ∧ w = w' := by
  rcases h with h | h
  · obtain rfl : n = 0 := by omega
    go_enter Tryz.func15, Tryz.ntmps15
    go_wp2
    go_ret2
    exact ⟨rfl, rfl⟩
  · have h2 : ((n : Int) == 0) = false := by simp; omega
    go_enter Tryz.func15, Tryz.ntmps15
    go_wp2
    go_ret2
    exact ⟨rfl, rfl⟩
theorem getbig_none (a : Option Addr) (n c : Nat) (w : World) (h : n < 1 ∨ 8 < n) :
    Calls Tryz.prog 24 #[.slice a n c] w fun e w' => e = .returned (.tuple #[.int .u64 0, .bool false]) ∧ w = w' := by
  rcases h with h | h
  · obtain rfl : n = 0 := by omega
    go_enter Tryz.func24, Tryz.ntmps24
    go_wp2
    go_ret2
    exact ⟨rfl, rfl⟩
  · go_enter Tryz.func24, Tryz.ntmps24
    go_wp2
    go_ret2
    exact ⟨rfl, rfl⟩
theorem rget_any (a : Option Addr) (n c : Nat) (l : List UInt8) (w : World) (hn : n = l.length) (hl : Row w a (l.map b8)) (h1 : 1 ≤ l.length) (h8 : l.length ≤ 8) :
    Calls Tryz.prog 15 #[.slice a n c] w fun e w' => e = .returned (.tuple #[.int .u64 (getL l : Int), .bool true]) ∧ w = w' := by
  subst hn
  have h2 : ((l.length : Int) == 0) = false := beq_eq_false_iff_ne.2 (by omega)
  go_enter Tryz.func15, Tryz.ntmps15
  go_wp2
  go_loop [4, 5] (fun x i => ∃ k : Nat, k ≤ l.length ∧ i = .int .i64 ((k : Int) - 1) ∧ x = .int .u64 (getL (l.drop k) : Int)) (fun _ i => (intOf i + 1).toNat)
  case atStart => exact ⟨l.length, Nat.le_refl _, rfl, by simp [getL]⟩
  case round =>
    obtain ⟨k, hk, rfl, rfl⟩ := hrel
    by_cases hlt : 0 < k
    · obtain ⟨q, rfl⟩ : ∃ q, k = q + 1 := ⟨k - 1, by omega⟩
      have hq : q < l.length := by omega
      have c1 := hl.byte hq
      have s1 := hl.byteSome hq
      have u1 := u8_le l[q]
      have u0 : 0 ≤ (l[q].toNat : Int) := by omega
      have hd := getL_drop l q hq
      have hs := getL_small (l.drop q) (by rw [List.length_drop]; omega)
      have b1 : (getL (l.drop (q + 1)) : Int) * 256 + (l[q].toNat : Int) ≤ 18446744073709551615 := by omega
      have HS := Lib.hid hd
      clear hd hs
      go_wp2
      first
        | exact ⟨⟨q, by omega, (by first | rfl | go_num | (congr 1; omega)), by rw [HS.out]; simp⟩, by simp [intOf] <;> omega⟩
        | (refine ⟨?_, by simp [intOf] <;> omega⟩; (repeat apply Exists.intro); exact ⟨⟨q, by omega, (by first | rfl | go_num | (congr 1; omega)), by rw [HS.out]; simp⟩, rfl⟩)
    · obtain rfl : k = 0 := by omega
      go_wp2
      go_ret2
      exact ⟨by simp, rfl⟩
theorem getbig_any (a : Option Addr) (n c : Nat) (l : List UInt8) (w : World) (hn : n = l.length) (hl : Row w a (l.map b8)) (h1 : 1 ≤ l.length) (h8 : l.length ≤ 8) :
    Calls Tryz.prog 24 #[.slice a n c] w fun e w' => e = .returned (.tuple #[.int .u64 (getL l.reverse : Int), .bool true]) ∧ w = w' := by
  subst hn
  go_enter Tryz.func24, Tryz.ntmps24
  go_wp2
  go_loop [4, 17] (fun x i => ∃ k : Nat, k ≤ l.length ∧ i = .int .i64 k ∧ x = .int .u64 (getL (l.take k).reverse : Int)) (fun _ i => l.length - (intOf i).toNat)
  case atStart => exact ⟨0, Nat.zero_le _, rfl, rfl⟩
  case round =>
    obtain ⟨k, hk, rfl, rfl⟩ := hrel
    by_cases hlt : k < l.length
    · have c1 := hl.byte hlt
      have s1 := hl.byteSome hlt
      have HS := Lib.hid (getBig_step l k hlt h8)
      have u1 := u8_le l[k]
      go_wp2
      first
        | exact ⟨⟨k + 1, by omega, (by first | rfl | go_num | (congr 1; omega)), by rw [← HS.out]⟩, by simp [intOf] <;> omega⟩
        | (refine ⟨?_, by simp [intOf] <;> omega⟩; (repeat apply Exists.intro); exact ⟨⟨k + 1, by omega, (by first | rfl | go_num | (congr 1; omega)), by rw [← HS.out]⟩, rfl⟩)
    · obtain rfl : k = l.length := by omega
      go_wp2
      go_ret2
      exact ⟨by simp, rfl⟩
end Go.Proofs.YtpchogicdnfggaaGreatDoor
