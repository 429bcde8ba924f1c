/- Layer 20: the document's match of tokens: plain laws. -/
import Derived.Test.YtcanlgcifnjfaaaDoorPt16
set_option maxRecDepth 20000
namespace Go.Proofs.YtcanlgcifnjfaaaDoor
open Go.RowKit Go.Hd

/-- Where the set that begins behind place i has its end. -/
def clF (p : List UInt8) (i : Nat) : Int := match setF (p.drop i) with
  | none => -1
  | some fk => ((i + fk.2 : Nat) : Int) - 1
def frA (p : List UInt8) (i : Nat) : Nat := i + frF (p.drop i) + 1
theorem cl_found {p : List UInt8} {i j : Nat} (h1 : frA p i ≤ j) (h2 : p[j]? = some 93) (h3 : ∀ m, frA p i ≤ m → m < j → p[m]? ≠ some 93) : clF p i = (j : Int) := by
  unfold frA at h1 h3
  have hj := (List.getElem?_eq_some_iff.1 h2).1
  obtain ⟨o, rfl⟩ : ∃ o, j = i + frF (p.drop i) + 1 + o := ⟨j - (i + frF (p.drop i) + 1), by omega⟩
  have hq : (p.drop i).drop (frF (p.drop i) + 1) = p.drop (i + frF (p.drop i) + 1) := by rw [List.drop_drop]; rfl
  have e : p.drop (i + frF (p.drop i) + 1) = (p.drop (i + frF (p.drop i) + 1)).take o ++ 93 :: p.drop (i + frF (p.drop i) + 1 + o + 1) := by
    conv => lhs; rw [← List.take_append_drop o (p.drop (i + frF (p.drop i) + 1))]
    rw [List.drop_drop, List.drop_eq_getElem_cons hj, (List.getElem?_eq_some_iff.1 h2).2]
  have hn : 93 ∉ (p.drop (i + frF (p.drop i) + 1)).take o := fun hm => by
    obtain ⟨m, hm1, hm2⟩ := List.getElem_of_mem hm
    have hm3 : m < o := by simp at hm1; omega
    refine h3 (i + frF (p.drop i) + 1 + m) (by omega) (by omega) ?_
    rw [← hm2, List.getElem_take, List.getElem_drop, List.getElem?_eq_getElem]
  have hidx : Lib.indexByte ((p.drop i).drop (frF (p.drop i) + 1)) 93 = (o : Int) := by
    rw [hq, e, idx_at _ _ _ hn, List.length_take, List.length_drop]; omega
  unfold clF setF
  rw [hidx, if_neg (by rw [List.length_drop]; omega), if_neg (by omega)]
  simp only [Int.toNat_natCast]
  omega
theorem cl_none {p : List UInt8} {i : Nat} (h3 : ∀ m, frA p i ≤ m → m < p.length → p[m]? ≠ some 93) : clF p i = -1 := by
  unfold frA at h3
  unfold clF setF
  by_cases h : (p.drop i).length ≤ frF (p.drop i) + 1
  · rw [if_pos h]
  · rw [if_neg h, idx_no, if_pos (by decide)]
    rw [List.drop_drop]
    intro hm
    obtain ⟨m, hm1, hm2⟩ := List.getElem_of_mem hm
    rw [List.length_drop] at hm1
    refine h3 (i + (frF (p.drop i) + 1) + m) (by omega) (by omega) ?_
    rw [← hm2, List.getElem_drop, List.getElem?_eq_getElem]
theorem frF_at {p : List UInt8} {i : Nat} (h : i < p.length) : frF (p.drop i) = if (p[i]'h == 33) = true then 1 else 0 := by
  unfold frF beginsB
  rw [List.drop_eq_getElem_cons h]
  have e : List.isPrefixOf [33] (p[i] :: p.drop (i + 1)) = (p[i] == 33) := by
    show ((33 : UInt8) == p[i] && List.isPrefixOf [] (p.drop (i + 1))) = _
    rw [Bool.beq_comm]; simp
  rw [e]
theorem frF_out {p : List UInt8} {i : Nat} (h : p.length ≤ i) : frF (p.drop i) = 0 := by
  rw [List.drop_eq_nil_of_le h]; rfl
/-- Whether all sets end. -/
def canN : Nat → List UInt8 → Bool
  | 0, _ => false
  | _ + 1, [] => true
  | n + 1, c :: r => if c = 91 then (match setF r with
    | none => false
    | some fk => canN n (r.drop fk.2)) else canN n r
theorem canN_fuel : ∀ (n m : Nat) (s : List UInt8), s.length < n → s.length < m → canN n s = canN m s
  | 0, _, _, h, _ => by omega
  | _, 0, _, _, h => by omega
  | _ + 1, _ + 1, [], _, _ => rfl
  | n + 1, m + 1, c :: r, h1, h2 => by
    rw [List.length_cons] at h1 h2
    show (if c = 91 then _ else canN n r) = (if c = 91 then _ else canN m r)
    rw [canN_fuel n m r (by omega) (by omega)]
    cases setF r with
    | none => rfl
    | some fk =>
      show (if c = 91 then canN n (r.drop fk.2) else canN m r) = (if c = 91 then canN m (r.drop fk.2) else canN m r)
      rw [canN_fuel n m (r.drop fk.2) (by rw [List.length_drop]; omega) (by rw [List.length_drop]; omega)]
theorem map_isSome {α β : Type} (f : α → β) (o : Option α) : (o.map f).isSome = o.isSome := by cases o <;> rfl
theorem begins_deep {s : List UInt8} (h : beginsB s [42, 42, 47] = true) : s = 42 :: 42 :: 47 :: s.drop 3 := by
  have h2 := begins_len h
  match s, h2 with
  | [], h2 => exact absurd h2.1 (by decide)
  | [_], h2 => exact absurd h2.1 (by simp)
  | [_, _], h2 => exact absurd h2.1 (by simp)
  | a :: b :: c :: r, h2 =>
    have e0 := h2.2 0 (by decide)
    have e1 := h2.2 1 (by decide)
    have e2 := h2.2 2 (by decide)
    simp at e0 e1 e2
    rw [e0, e1, e2]; rfl
theorem toks_can {sh : Bool} : ∀ (n : Nat) (sl : Bool) (s : List UInt8), s.length < n → (toksF sh n sl s).isSome = canN n s
  | 0, _, _, h => by omega
  | n + 1, sl, [], _ => by rw [tok_nil]; rfl
  | n + 1, sl, c :: r, h => by
    rw [List.length_cons] at h
    by_cases hd : sh = true ∧ sl = true ∧ beginsB (c :: r) [42, 42, 47] = true
    · obtain ⟨rfl, g1, g2⟩ := hd
      have e := begins_deep g2
      rw [tok_deep g1 g2, map_isSome, toks_can n _ _ (by rw [List.length_drop, List.length_cons]; omega)]
      have hl := congrArg List.length e
      rw [List.length_cons, List.length_cons, List.length_cons, List.length_cons] at hl
      generalize (c :: r).drop 3 = q at *
      rw [e]
      obtain ⟨n', rfl⟩ : ∃ n', n = n' + 2 := ⟨n - 2, by omega⟩
      show canN (n' + 2) q = canN n' q
      exact canN_fuel _ _ _ (by omega) (by omega)
    · rw [tok_other hd]
      show _ = if c = 91 then _ else canN n r
      by_cases h1 : c = 42
      · rw [if_pos h1, if_neg (by rw [h1]; decide), map_isSome, toks_can n _ r (by omega)]
      · rw [if_neg h1]
        by_cases h2 : c = 63
        · rw [if_pos h2, if_neg (by rw [h2]; decide), map_isSome, toks_can n _ r (by omega)]
        · rw [if_neg h2]
          by_cases h3 : c = 91
          · rw [if_pos h3, if_pos h3]
            cases setF r with
            | none => rfl
            | some fk =>
              show ((toksF sh n false (r.drop fk.2)).map _).isSome = canN n (r.drop fk.2)
              rw [map_isSome, toks_can n _ _ (by rw [List.length_drop]; omega)]
          · rw [if_neg h3, if_neg h3, map_isSome, toks_can n _ r (by omega)]

/-! The tokens from a place on, and what they match from a place on. -/
def slB (P : List UInt8) (i : Nat) : Bool := i == 0 || P[i - 1]? == some 47
def tkA (sh : Bool) (P : List UInt8) (i : Nat) : Option (List Tok) := toksF sh (P.length - i + 1) (slB P i) (P.drop i)
def mtA (sh : Bool) (P S : List UInt8) (i k : Nat) : Bool := match tkA sh P i with
  | none => false
  | some T => Hd.mt sh T (S.drop k)
def behA (sh : Bool) (P S : List UInt8) (i k : Nat) : Bool := match tkA sh P i with
  | none => false
  | some T => behind (Hd.mt sh T) (S.drop k)
def okA (sh : Bool) (P : List UInt8) (i : Nat) : Prop := (tkA sh P i).isSome = true
def moreA (sh : Bool) (S : List UInt8) (k : Nat) : Bool := match S[k]? with
  | none => false
  | some d => !(sh && d == 47)
theorem slB_succ {P : List UInt8} {i : Nat} (h : i < P.length) : slB P (i + 1) = (P[i] == 47) := by
  unfold slB
  rw [show i + 1 - 1 = i from rfl, List.getElem?_eq_getElem h]
  simp
theorem tk_end (sh : Bool) (P : List UInt8) : tkA sh P P.length = some [] := by
  unfold tkA; rw [List.drop_length]; exact tok_nil
theorem tk_deep {P : List UInt8} {i : Nat} (hs : slB P i = true) (hb : beginsB (P.drop i) [42, 42, 47] = true) : i + 3 ≤ P.length ∧ tkA true P i = (tkA true P (i + 3)).map (.deep :: ·) := by
  have hl := (begins_len hb)
  have h3 : i + 3 ≤ P.length := by have := hl.1; rw [List.length_drop] at this; simp at this; omega
  refine ⟨h3, ?_⟩
  have h2 := hl.2 2 (by decide)
  rw [List.getElem?_drop] at h2
  unfold tkA
  rw [tok_deep hs hb, List.drop_drop, show slB P (i + 3) = true by unfold slB; rw [show i + 3 - 1 = i + 2 from rfl, h2]; simp]
  rw [toks_fuel (P.length - i) (P.length - (i + 3) + 1) _ _ (by rw [List.length_drop]; omega) (by rw [List.length_drop]; omega)]
theorem tk_other {sh : Bool} {P : List UInt8} {i : Nat} (hi : i < P.length) (hd : ¬ (sh = true ∧ slB P i = true ∧ beginsB (P.drop i) [42, 42, 47] = true)) : tkA sh P i =
    if P[i] = 42 then (tkA sh P (i + 1)).map (.star :: ·)
    else if P[i] = 63 then (tkA sh P (i + 1)).map (.any1 :: ·)
    else if P[i] = 91 then match setF (P.drop (i + 1)) with
      | none => none
      | some (f, k) => (tkA sh P (i + 1 + k)).map (.set f :: ·)
    else (tkA sh P (i + 1)).map (.one P[i] :: ·) := by
  have hc := List.drop_eq_getElem_cons hi
  rw [hc] at hd
  have hsl := slB_succ hi
  unfold tkA
  rw [hc, tok_other hd]
  have fu : ∀ j sl, i + 1 ≤ j → toksF sh (P.length - i) sl (P.drop j) = toksF sh (P.length - j + 1) sl (P.drop j) := fun j sl hj =>
    toks_fuel _ _ _ _ (by rw [List.length_drop]; omega) (by rw [List.length_drop]; omega)
  rw [fu (i + 1) false (by omega), fu (i + 1) (P[i] == 47) (by omega), hsl]
  by_cases h1 : P[i] = 42
  · rw [if_pos h1, if_pos h1, h1]; rfl
  rw [if_neg h1, if_neg h1]
  by_cases h2 : P[i] = 63
  · rw [if_pos h2, if_pos h2, h2]; rfl
  rw [if_neg h2, if_neg h2]
  by_cases h3 : P[i] = 91
  · rw [if_pos h3, if_pos h3]
    cases hS : setF (P.drop (i + 1)) with
    | none => rfl
    | some fk =>
      obtain ⟨f, k⟩ := fk
      obtain ⟨g1, g2, g3⟩ := setF_end hS
      rw [List.getElem?_drop] at g3
      simp only
      rw [List.drop_drop, fu (i + 1 + k) false (by omega), show slB P (i + 1 + k) = false by
        unfold slB
        rw [show i + 1 + k - 1 = i + 1 + (k - 1) by omega, g3]
        simp]
  · rw [if_neg h3, if_neg h3]
theorem mtA_end {sh : Bool} {P S : List UInt8} {k : Nat} (hk : k ≤ S.length) : mtA sh P S P.length k = decide (k = S.length) := by
  unfold mtA
  rw [tk_end]
  show (S.drop k).isEmpty = _
  rcases Nat.lt_or_ge k S.length with h | h
  · rw [decide_eq_false (by omega), List.drop_eq_getElem_cons h]; rfl
  · rw [decide_eq_true (by omega), List.drop_eq_nil_of_le h]; rfl
theorem mtA_deep {P S : List UInt8} {i k : Nat} (hok : okA true P i) (hs : slB P i = true) (hb : beginsB (P.drop i) [42, 42, 47] = true) :
    i + 3 ≤ P.length ∧ okA true P (i + 3) ∧ mtA true P S i k = (mtA true P S (i + 3) k || behA true P S (i + 3) k) := by
  obtain ⟨h3, e⟩ := tk_deep hs hb
  unfold okA at hok ⊢
  rw [e, map_isSome] at hok
  refine ⟨h3, hok, ?_⟩
  unfold mtA behA
  rw [e]
  cases hT : tkA true P (i + 3) with
  | none => rw [hT] at hok; cases hok
  | some T => rfl
theorem behA_end {sh : Bool} {P S : List UInt8} {i k : Nat} (hk : S.length ≤ k) : behA sh P S i k = false := by
  unfold behA
  rw [List.drop_eq_nil_of_le hk]
  cases tkA sh P i <;> rfl
theorem behA_step {sh : Bool} {P S : List UInt8} {i k : Nat} (hk : k < S.length) : behA sh P S i k = ((S[k] == 47 && mtA sh P S i (k + 1)) || behA sh P S i (k + 1)) := by
  unfold behA mtA
  rw [List.drop_eq_getElem_cons hk]
  cases tkA sh P i with
  | none => simp
  | some T => rfl
theorem takes_more {sh : Bool} {S : List UInt8} {k : Nat} (hk : k < S.length) : moreA sh S k = !(sh && S[k] == 47) := by
  unfold moreA
  rw [List.getElem?_eq_getElem hk]
theorem more_end {sh : Bool} {S : List UInt8} {k : Nat} (hk : S.length ≤ k) : moreA sh S k = false := by
  unfold moreA
  rw [List.getElem?_eq_none hk]
theorem takes_star (sh : Bool) (d : UInt8) : takesF sh .star d = !(sh && d == 47) ∧ takesF sh .any1 d = !(sh && d == 47) := by
  unfold takesF
  cases sh
  · rw [if_neg (by simp)]; exact ⟨rfl, rfl⟩
  · by_cases h : d = 47
    · subst h; exact ⟨rfl, rfl⟩
    · rw [if_neg (fun e => h e.2)]
      have : (d == 47) = false := by simpa using h
      rw [this]; exact ⟨rfl, rfl⟩
theorem takes_set (sh : Bool) (f : Nat → Bool) (d : UInt8) : takesF sh (.set f) d = (!(sh && d == 47) && f d.toNat) := by
  unfold takesF
  cases sh
  · rw [if_neg (by simp)]; simp
  · by_cases h : d = 47
    · subst h; rfl
    · rw [if_neg (fun e => h e.2)]
      have : (d == 47) = false := by simpa using h
      rw [this]; simp
theorem drop_cases (S : List UInt8) (k : Nat) : (S.length ≤ k ∧ S.drop k = []) ∨ ∃ h : k < S.length, S.drop k = S[k] :: S.drop (k + 1) := by
  rcases Nat.lt_or_ge k S.length with h | h
  · exact .inr ⟨h, List.drop_eq_getElem_cons h⟩
  · exact .inl ⟨h, List.drop_eq_nil_of_le h⟩
theorem mtA_star {sh : Bool} {P S : List UInt8} {i k : Nat} (hi : i < P.length) (hd : ¬ (sh = true ∧ slB P i = true ∧ beginsB (P.drop i) [42, 42, 47] = true)) (hc : P[i] = 42) (hok : okA sh P i) :
    okA sh P (i + 1) ∧ mtA sh P S i k = (mtA sh P S (i + 1) k || (moreA sh S k && mtA sh P S i (k + 1))) := by
  have e := tk_other hi hd
  rw [if_pos hc] at e
  unfold okA at hok ⊢
  rw [e, map_isSome] at hok
  refine ⟨hok, ?_⟩
  unfold mtA
  rw [e]
  cases hT : tkA sh P (i + 1) with
  | none => rw [hT] at hok; cases hok
  | some T =>
    show starB (takesF sh .star) (Hd.mt sh T) (S.drop k) = (Hd.mt sh T (S.drop k) || (moreA sh S k && starB (takesF sh .star) (Hd.mt sh T) (S.drop (k + 1))))
    rcases drop_cases S k with ⟨h, e2⟩ | ⟨h, e2⟩
    · rw [e2, more_end h]; simp [starB]
    · rw [e2, takes_more h, ← (takes_star sh S[k]).1]; rfl
theorem mtA_any {sh : Bool} {P S : List UInt8} {i k : Nat} (hi : i < P.length) (hd : ¬ (sh = true ∧ slB P i = true ∧ beginsB (P.drop i) [42, 42, 47] = true)) (hc : P[i] = 63) (hok : okA sh P i) :
    okA sh P (i + 1) ∧ mtA sh P S i k = (moreA sh S k && mtA sh P S (i + 1) (k + 1)) := by
  have e := tk_other hi hd
  rw [if_neg (by rw [hc]; decide), if_pos hc] at e
  unfold okA at hok ⊢
  rw [e, map_isSome] at hok
  refine ⟨hok, ?_⟩
  unfold mtA
  rw [e]
  cases hT : tkA sh P (i + 1) with
  | none => rw [hT] at hok; cases hok
  | some T =>
    show headB (takesF sh .any1) (Hd.mt sh T) (S.drop k) = (moreA sh S k && Hd.mt sh T (S.drop (k + 1)))
    rcases drop_cases S k with ⟨h, e2⟩ | ⟨h, e2⟩
    · rw [e2, more_end h]; rfl
    · rw [e2, takes_more h, ← (takes_star sh S[k]).2]; rfl
theorem mtA_set {sh : Bool} {P S : List UInt8} {i k : Nat} (hi : i < P.length) (hd : ¬ (sh = true ∧ slB P i = true ∧ beginsB (P.drop i) [42, 42, 47] = true)) (hc : P[i] = 91) (hok : okA sh P i) :
    ∃ f n, setF (P.drop (i + 1)) = some (f, n) ∧ i + 1 + n ≤ P.length ∧ 2 ≤ n ∧ okA sh P (i + 1 + n) ∧ (S.length ≤ k → mtA sh P S i k = false) ∧ ∀ h : k < S.length, mtA sh P S i k = (moreA sh S k && (f (S[k]'h).toNat && mtA sh P S (i + 1 + n) (k + 1))) := by
  have e := tk_other hi hd
  rw [if_neg (by rw [hc]; decide), if_neg (by rw [hc]; decide), if_pos hc] at e
  cases hS : setF (P.drop (i + 1)) with
  | none => rw [hS] at e; unfold okA at hok; rw [e] at hok; cases hok
  | some fk =>
    obtain ⟨f, n⟩ := fk
    rw [hS] at e
    obtain ⟨g1, g2, _⟩ := setF_end hS
    rw [List.length_drop] at g2
    unfold okA at hok ⊢
    simp only at e
    rw [e, map_isSome] at hok
    refine ⟨f, n, rfl, by omega, g1, hok, ?_⟩
    unfold mtA
    rw [e]
    cases hT : tkA sh P (i + 1 + n) with
    | none => rw [hT] at hok; cases hok
    | some T =>
      refine ⟨fun h => ?_, fun h => ?_⟩
      · show headB (takesF sh (.set f)) (Hd.mt sh T) (S.drop k) = false
        rw [List.drop_eq_nil_of_le h]; rfl
      · show headB (takesF sh (.set f)) (Hd.mt sh T) (S.drop k) = (moreA sh S k && (f S[k].toNat && Hd.mt sh T (S.drop (k + 1))))
        rw [List.drop_eq_getElem_cons h, takes_more h, ← Bool.and_assoc, ← takes_set]; rfl
theorem mtA_one {sh : Bool} {P S : List UInt8} {i k : Nat} (hi : i < P.length) (hd : ¬ (sh = true ∧ slB P i = true ∧ beginsB (P.drop i) [42, 42, 47] = true)) (h1 : P[i] ≠ 42) (h2 : P[i] ≠ 63) (h3 : P[i] ≠ 91) (hok : okA sh P i) :
    okA sh P (i + 1) ∧ (S.length ≤ k → mtA sh P S i k = false) ∧ ∀ h : k < S.length, mtA sh P S i k = ((S[k]'h == P[i]) && mtA sh P S (i + 1) (k + 1)) := by
  have e := tk_other hi hd
  rw [if_neg h1, if_neg h2, if_neg h3] at e
  unfold okA at hok ⊢
  rw [e, map_isSome] at hok
  refine ⟨hok, ?_⟩
  unfold mtA
  rw [e]
  cases hT : tkA sh P (i + 1) with
  | none => rw [hT] at hok; cases hok
  | some T =>
    refine ⟨fun h => ?_, fun h => ?_⟩
    · show headB (takesF sh (.one P[i])) (Hd.mt sh T) (S.drop k) = false
      rw [List.drop_eq_nil_of_le h]; rfl
    · show headB (takesF sh (.one P[i])) (Hd.mt sh T) (S.drop k) = _
      rw [List.drop_eq_getElem_cons h]
      show (takesF sh (.one P[i]) S[k] && _) = _
      rw [takes_one, Bool.beq_comm]
end Go.Proofs.YtcanlgcifnjfaaaDoor
