/- Layer 20: plain law: pieces of a text, paths, their order. -/
import Derived.Test.YtakliplkabgmbaaLib2
set_option maxRecDepth 20000
namespace Go.Hd
open Go Go.RowKit

/-- A text, cut at each '/'. -/
def cutP : List UInt8 → List (List UInt8)
  | [] => [[]]
  | c :: s => if c = 47 then [] :: cutP s else match cutP s with
    | [] => [[c]]
    | p :: ps => (c :: p) :: ps
theorem cutP_ne (s : List UInt8) : cutP s ≠ [] := by
  cases s with
  | nil => simp [cutP]
  | cons c s =>
    unfold cutP
    split
    · simp
    · split <;> simp
theorem cutP_sep (s : List UInt8) : cutP (47 :: s) = [] :: cutP s := by
  show (if (47 : UInt8) = 47 then [] :: cutP s else _) = _
  rw [if_pos rfl]
theorem cutP_cons {c : UInt8} (h : c ≠ 47) (s : List UInt8) : ∃ p ps, cutP s = p :: ps ∧ cutP (c :: s) = (c :: p) :: ps := by
  have hn := cutP_ne s
  cases hs : cutP s with
  | nil => exact absurd hs hn
  | cons p ps =>
    refine ⟨p, ps, rfl, ?_⟩
    show (if c = 47 then [] :: cutP s else match cutP s with | [] => [[c]] | p :: ps => (c :: p) :: ps) = _
    rw [if_neg h, hs]
theorem cutP_app : ∀ (p s : List UInt8), 47 ∉ p → cutP (p ++ 47 :: s) = p :: cutP s
  | [], s, _ => cutP_sep s
  | c :: p, s, h => by
    have hc : c ≠ 47 := fun e => h (by rw [e]; simp)
    obtain ⟨q, qs, h1, h2⟩ := cutP_cons hc (p ++ 47 :: s)
    rw [cutP_app p s (fun e => h (List.mem_cons_of_mem _ e))] at h1
    injection h1 with h1 h3
    rw [List.cons_append, h2, ← h1, ← h3]
theorem cutP_one : ∀ (p : List UInt8), 47 ∉ p → cutP p = [p]
  | [], _ => rfl
  | c :: p, h => by
    have hc : c ≠ 47 := fun e => h (by rw [e]; simp)
    obtain ⟨q, qs, h1, h2⟩ := cutP_cons hc p
    rw [cutP_one p (fun e => h (List.mem_cons_of_mem _ e))] at h1
    injection h1 with h1 h3
    rw [h2, ← h1, ← h3]
theorem cutP_no : ∀ (s : List UInt8), ∀ p ∈ cutP s, 47 ∉ p
  | [], p, h => by simp [cutP] at h; subst h; simp
  | c :: s, p, h => by
    by_cases hc : c = 47
    · subst hc
      rw [cutP_sep] at h
      rcases List.mem_cons.1 h with rfl | h
      · simp
      · exact cutP_no s p h
    · obtain ⟨q, qs, h1, h2⟩ := cutP_cons hc s
      have ih := cutP_no s
      rw [h1] at ih
      rw [h2] at h
      rcases List.mem_cons.1 h with rfl | h
      · intro e
        rcases List.mem_cons.1 e with e | e
        · exact hc e.symm
        · exact ih q (by simp) e
      · exact ih p (List.mem_cons_of_mem _ h)
/-- '/' between. -/
def joinP : List (List UInt8) → List UInt8
  | [] => []
  | [p] => p
  | p :: q :: r => p ++ 47 :: joinP (q :: r)
theorem joinP_cons (p : List UInt8) {r : List (List UInt8)} (h : r ≠ []) : joinP (p :: r) = p ++ 47 :: joinP r := by
  cases r with
  | nil => exact absurd rfl h
  | cons q r => rfl
theorem joinP_cutP : ∀ s : List UInt8, joinP (cutP s) = s
  | [] => rfl
  | c :: s => by
    have ih := joinP_cutP s
    by_cases hc : c = 47
    · subst hc
      rw [cutP_sep, joinP_cons _ (cutP_ne s), ih]; rfl
    · obtain ⟨q, qs, h1, h2⟩ := cutP_cons hc s
      rw [h1] at ih
      rw [h2, ← ih]
      cases qs with
      | nil => rfl
      | cons r rs => rfl
theorem cutP_joinP : ∀ (ps : List (List UInt8)), ps ≠ [] → (∀ p ∈ ps, 47 ∉ p) → cutP (joinP ps) = ps
  | [], h, _ => absurd rfl h
  | [p], _, h => cutP_one p (h p (by simp))
  | p :: q :: r, _, h => by
    rw [joinP_cons p (by simp), cutP_app p _ (h p (by simp)), cutP_joinP (q :: r) (by simp) (fun x hx => h x (List.mem_cons_of_mem _ hx))]
theorem cutP_inj {a b : List UInt8} (h : cutP a = cutP b) : a = b := by rw [← joinP_cutP a, h, joinP_cutP]
theorem joinP_app : ∀ (a b : List (List UInt8)), a ≠ [] → b ≠ [] → joinP (a ++ b) = joinP a ++ 47 :: joinP b
  | [], _, h, _ => absurd rfl h
  | [p], b, _, h => by rw [List.singleton_append, joinP_cons p h]; rfl
  | p :: q :: r, b, _, h => by
    rw [List.cons_append, joinP_cons p (by simp), joinP_app (q :: r) b (by simp) h, joinP_cons p (by simp)]
    simp
/-- A text behind another one and a '/'. -/
theorem cutP_begin (a s : List UInt8) : cutP (a ++ 47 :: s) = cutP a ++ cutP s := by
  have h : a ++ 47 :: s = joinP (cutP a ++ cutP s) := by
    rw [joinP_app _ _ (cutP_ne a) (cutP_ne s), joinP_cutP, joinP_cutP]
  rw [h, cutP_joinP _ (by simp [cutP_ne]) (fun p hp => by
    rcases List.mem_append.1 hp with hp | hp
    · exact cutP_no a p hp
    · exact cutP_no s p hp)]
/-- A part. -/
def partB (p : List UInt8) : Bool := p != [] && decide (p.length ≤ 60) && p != [46] && p != [46, 46] && !p.contains 0 && !p.contains 47
def checkF (s : List UInt8) : Int := if 200 < s.length then 8 else if (cutP s).all partB then 0 else 8
theorem checkF_cases (s : List UInt8) : checkF s = 0 ∨ checkF s = 8 := by
  unfold checkF
  split
  · exact .inr rfl
  · split
    · exact .inl rfl
    · exact .inr rfl
def cleanL (s : List UInt8) : List (List UInt8) := (cutP s).filter fun p => p != [] && p != [46]
def cleanT (s : List UInt8) : List UInt8 := joinP (cleanL s)
def cleanF (s : List UInt8) : List UInt8 × Int := if checkF (cleanT s) = 0 then (cleanT s, 0) else ([], 8)
theorem cleanL_path {s : List UInt8} (h : checkF s = 0) : cleanL s = cutP s := by
  unfold cleanL
  rw [List.filter_eq_self]
  intro p hp
  unfold checkF at h
  split at h
  · cases h
  · split at h
    · rename_i h2
      have := List.all_eq_true.1 h2 p hp
      unfold partB at this
      simp only [Bool.and_eq_true] at this
      simp only [Bool.and_eq_true]
      exact ⟨this.1.1.1.1.1, this.1.1.1.2⟩
    · cases h
theorem clean_path {s : List UInt8} (h : checkF s = 0) : cleanF s = (s, 0) := by
  unfold cleanF
  have e : cleanT s = s := by unfold cleanT; rw [cleanL_path h, joinP_cutP]
  rw [e, if_pos h]
theorem clean_ok {s c : List UInt8} (h : cleanF s = (c, 0)) : checkF c = 0 ∧ cleanF c = (c, 0) := by
  unfold cleanF at h
  split at h
  · rename_i h2
    injection h with h _
    subst h
    exact ⟨h2, clean_path h2⟩
  · injection h with _ h
    cases h
theorem clean_bad {s c : List UInt8} {e : Int} (h : cleanF s = (c, e)) (he : e ≠ 0) : c = [] ∧ e = 8 ∧ checkF s ≠ 0 := by
  by_cases hs : checkF s = 0
  · rw [clean_path hs] at h
    injection h with _ h
    exact absurd h.symm he
  · unfold cleanF at h
    split at h
    · injection h with _ h
      exact absurd h.symm he
    · injection h with h1 h2
      exact ⟨h1.symm, h2.symm, hs⟩

/-! The order. -/
theorem bl_irrefl : ∀ x : List UInt8, Op.bytesLess x x = false
  | [] => rfl
  | c :: x => by simp [Op.bytesLess, bl_irrefl x]
theorem bl_total : ∀ x y : List UInt8, x ≠ y → Op.bytesLess x y = true ∨ Op.bytesLess y x = true
  | [], [], h => absurd rfl h
  | [], _ :: _, _ => .inl rfl
  | _ :: _, [], _ => .inr rfl
  | a :: x, b :: y, h => by
    simp only [Op.bytesLess, Bool.or_eq_true, decide_eq_true_eq, Bool.and_eq_true, beq_iff_eq]
    rcases UInt8.lt_or_lt_of_ne (a := a) (b := b) |> fun f => (Decidable.em (a = b)) with hab | hab
    · subst hab
      rcases bl_total x y (fun e => h (by rw [e])) with h1 | h1
      · exact .inl (.inr ⟨rfl, h1⟩)
      · exact .inr (.inr ⟨rfl, h1⟩)
    · rcases UInt8.lt_or_lt_of_ne hab with h1 | h1
      · exact .inl (.inl h1)
      · exact .inr (.inl h1)
theorem bl_trans : ∀ x y z : List UInt8, Op.bytesLess x y = true → Op.bytesLess y z = true → Op.bytesLess x z = true
  | _, _, [], _, h => by cases ‹List UInt8› <;> simp [Op.bytesLess] at h
  | _, [], _ :: _, h, _ => by cases ‹List UInt8› <;> simp [Op.bytesLess] at h
  | [], _ :: _, _ :: _, _, _ => rfl
  | a :: x, b :: y, c :: z, h1, h2 => by
    simp only [Op.bytesLess, Bool.or_eq_true, decide_eq_true_eq, Bool.and_eq_true, beq_iff_eq] at h1 h2 ⊢
    rcases h1 with h1 | ⟨rfl, h1⟩
    · rcases h2 with h2 | ⟨rfl, h2⟩
      · exact .inl (UInt8.lt_trans h1 h2)
      · exact .inl h1
    · rcases h2 with h2 | ⟨rfl, h2⟩
      · exact .inl h2
      · exact .inr ⟨rfl, bl_trans x y z h1 h2⟩
/-- Piece by piece. -/
def lessL : List (List UInt8) → List (List UInt8) → Bool
  | _, [] => false
  | [], _ :: _ => true
  | x :: a, y :: b => if x = y then lessL a b else Op.bytesLess x y
def lessF (a b : List UInt8) : Bool := lessL (cutP a) (cutP b)
theorem lessL_irrefl : ∀ a : List (List UInt8), lessL a a = false
  | [] => rfl
  | x :: a => by unfold lessL; rw [if_pos rfl]; exact lessL_irrefl a
theorem lessL_total : ∀ a b : List (List UInt8), a ≠ b → lessL a b = true ∨ lessL b a = true
  | [], [], h => absurd rfl h
  | [], _ :: _, _ => .inl rfl
  | _ :: _, [], _ => .inr rfl
  | x :: a, y :: b, h => by
    unfold lessL
    by_cases hxy : x = y
    · subst hxy
      rw [if_pos rfl, if_pos rfl]
      exact lessL_total a b (fun e => h (by rw [e]))
    · rw [if_neg hxy, if_neg (Ne.symm hxy)]
      exact bl_total x y hxy
theorem bl_asymm {x y : List UInt8} (h : Op.bytesLess x y = true) : Op.bytesLess y x = false := by
  rcases Bool.eq_false_or_eq_true (Op.bytesLess y x) with h2 | h2
  · have := bl_trans _ _ _ h h2
    rw [bl_irrefl] at this; cases this
  · exact h2
theorem lessL_trans : ∀ a b c : List (List UInt8), lessL a b = true → lessL b c = true → lessL a c = true
  | _, _, [], _, h => by cases ‹List (List UInt8)› <;> simp [lessL] at h
  | _, [], _ :: _, h, _ => by cases ‹List (List UInt8)› <;> simp [lessL] at h
  | [], _ :: _, _ :: _, _, _ => rfl
  | x :: a, y :: b, z :: c, h1, h2 => by
    unfold lessL at h1 h2 ⊢
    by_cases hxy : x = y
    · subst hxy
      rw [if_pos rfl] at h1
      by_cases hxz : x = z
      · subst hxz
        rw [if_pos rfl] at h2 ⊢
        exact lessL_trans a b c h1 h2
      · rw [if_neg hxz] at h2 ⊢; exact h2
    · rw [if_neg hxy] at h1
      by_cases hyz : y = z
      · subst hyz
        rw [if_neg hxy]; exact h1
      · rw [if_neg hyz] at h2
        have h3 := bl_trans _ _ _ h1 h2
        by_cases hxz : x = z
        · subst hxz
          rw [bl_irrefl] at h3; cases h3
        · rw [if_neg hxz]; exact h3
theorem lessL_asymm {a b : List (List UInt8)} (h : lessL a b = true) : lessL b a = false := by
  rcases Bool.eq_false_or_eq_true (lessL b a) with h2 | h2
  · have := lessL_trans _ _ _ h h2
    rw [lessL_irrefl] at this; cases this
  · exact h2
theorem lessL_app : ∀ (a : List (List UInt8)) {x : List (List UInt8)}, x ≠ [] → lessL a (a ++ x) = true
  | [], [], h => absurd rfl h
  | [], _ :: _, _ => rfl
  | y :: a, x, h => by
    rw [List.cons_append]; unfold lessL; rw [if_pos rfl]; exact lessL_app a h
/-- What lies behind a list, and does not begin with it, lies behind all that begin with it. -/
theorem lessL_behind : ∀ (a x c : List (List UInt8)), lessL a c = true → (∀ r, c ≠ a ++ r) → lessL (a ++ x) c = true
  | [], x, c, _, h => absurd rfl (h c)
  | y :: a, x, [], h, _ => by simp [lessL] at h
  | y :: a, x, z :: c, h, hn => by
    rw [List.cons_append]
    unfold lessL at h ⊢
    by_cases hyz : y = z
    · subst hyz
      rw [if_pos rfl] at h ⊢
      exact lessL_behind a x c h (fun r e => hn r (by rw [e]; rfl))
    · rw [if_neg hyz] at h ⊢; exact h
/-- b begins with a and a '/'. -/
def beginsB (s t : List UInt8) : Bool := t.isPrefixOf s
def insideF (a b : List UInt8) : Bool := checkF a == 0 && checkF b == 0 && (a == b || beginsB b (a ++ [47]))
theorem begins_pieces {a b : List UInt8} (h : beginsB b (a ++ [47]) = true) : ∃ x, x ≠ [] ∧ cutP b = cutP a ++ x := by
  unfold beginsB at h
  obtain ⟨s, hs⟩ := List.isPrefixOf_iff_prefix.1 h
  refine ⟨cutP s, cutP_ne s, ?_⟩
  rw [← hs, List.append_assoc]
  exact cutP_begin a s
theorem pieces_begin {a b : List UInt8} {r : List (List UInt8)} (h : cutP b = cutP a ++ r) : b = a ∨ beginsB b (a ++ [47]) = true := by
  by_cases hr : r = []
  · left
    rw [hr, List.append_nil] at h
    exact cutP_inj h
  · right
    have e : b = a ++ [47] ++ joinP r := by
      rw [← joinP_cutP b, h, joinP_app _ _ (cutP_ne a) hr, joinP_cutP]; simp
    unfold beginsB
    rw [List.isPrefixOf_iff_prefix]
    exact ⟨joinP r, e.symm⟩
/-- The law of the order. -/
theorem order_law (a b c : List UInt8) :
    lessF a a = false ∧ (lessF a b = true → lessF b a = false) ∧ (a ≠ b → lessF a b = false → lessF b a = true) ∧ (lessF a b = true → lessF b c = true → lessF a c = true) ∧
    (insideF a b = true → a ≠ b → lessF a b = true) ∧ (insideF a b = true → lessF a c = true → checkF c = 0 → insideF a c = false → lessF b c = true) := by
  refine ⟨lessL_irrefl _, lessL_asymm, fun h1 h2 => ?_, lessL_trans _ _ _, fun h1 h2 => ?_, fun h1 h2 h3 h4 => ?_⟩
  · rcases lessL_total (cutP a) (cutP b) (fun e => h1 (cutP_inj e)) with h | h
    · unfold lessF at h2; rw [h] at h2; cases h2
    · exact h
  · unfold insideF at h1
    simp only [Bool.and_eq_true, Bool.or_eq_true, beq_iff_eq] at h1
    obtain ⟨x, hx, e⟩ := begins_pieces (h1.2.resolve_left h2)
    unfold lessF
    rw [e]
    exact lessL_app _ hx
  · unfold insideF at h1 h4
    simp only [Bool.and_eq_true, Bool.or_eq_true, beq_iff_eq] at h1
    have h5 : a ≠ c ∧ beginsB c (a ++ [47]) = false := by
      rw [h1.1.1, h3] at h4
      simpa using h4
    have hc : ∀ r, cutP c ≠ cutP a ++ r := fun r e => by
      rcases pieces_begin e with h6 | h6
      · exact h5.1 h6.symm
      · rw [h5.2] at h6; cases h6
    rcases h1.2 with h6 | h6
    · subst h6; exact h2
    · obtain ⟨x, _, e⟩ := begins_pieces h6
      unfold lessF at h2 ⊢
      rw [e]
      exact lessL_behind _ x _ h2 hc
end Go.Hd
