/- Layer 20: what a pattern's tokens match, and the states that may come next. -/
import Derived.Test.YtcanlgcifnjfaaaDoorPl20
set_option maxRecDepth 20000
namespace Go.Hd

inductive Tok where
  | one (c : UInt8)
  | star
  | any1
  | set (f : Nat → Bool)
  | deep

def takesF (sh : Bool) (t : Tok) (d : UInt8) : Bool :=
  if sh = true ∧ d = 47 then (match t with | .one c => c == d | _ => false)
  else match t with
    | .one c => c == d
    | .set f => f d.toNat
    | .any1 => true
    | .star => true
    | .deep => false
def headB (ok : UInt8 → Bool) (p : List UInt8 → Bool) : List UInt8 → Bool
  | [] => false
  | d :: r => ok d && p r
def starB (ok : UInt8 → Bool) (p : List UInt8 → Bool) : List UInt8 → Bool
  | [] => p []
  | d :: r => p (d :: r) || (ok d && starB ok p r)
def behind (p : List UInt8 → Bool) : List UInt8 → Bool
  | [] => false
  | d :: r => (d == 47 && p r) || behind p r
def mt (sh : Bool) : List Tok → List UInt8 → Bool
  | [], s => s.isEmpty
  | .star :: T, s => starB (takesF sh .star) (mt sh T) s
  | .deep :: T, s => mt sh T s || behind (mt sh T) s
  | .one c :: T, s => headB (takesF sh (.one c)) (mt sh T) s
  | .any1 :: T, s => headB (takesF sh .any1) (mt sh T) s
  | .set f :: T, s => headB (takesF sh (.set f)) (mt sh T) s
/-- What a token takes first. -/
def sacc (sh : Bool) : List Tok → List UInt8 → Bool
  | [], s => s.isEmpty
  | .deep :: T, s => behind (mt sh T) s
  | .star :: T, s => headB (takesF sh .star) (mt sh (.star :: T)) s
  | t :: T, s => headB (takesF sh t) (mt sh T) s
theorem mt_star (sh : Bool) (T : List Tok) (r : List UInt8) : mt sh (.star :: T) r = (sacc sh (.star :: T) r || mt sh T r) := by
  cases r with
  | nil => rfl
  | cons d r => show (_ || _) = _; exact Bool.or_comm _ _
theorem mt_deep (sh : Bool) (T : List Tok) (r : List UInt8) : mt sh (.deep :: T) r = (sacc sh (.deep :: T) r || mt sh T r) := Bool.or_comm _ _
def Tok.plain : Tok → Bool
  | .star => false
  | .deep => false
  | _ => true
theorem mt_plain (sh : Bool) {t : Tok} (h : t.plain = true) (T : List Tok) (r : List UInt8) : mt sh (t :: T) r = sacc sh (t :: T) r := by
  cases t <;> first | rfl | exact absurd h (by decide)
theorem sacc_mt (sh : Bool) (T : List Tok) (r : List UInt8) (h : sacc sh T r = true) : mt sh T r = true := by
  cases T with
  | nil => exact h
  | cons t T =>
    cases t
    case star => rw [mt_star, h]; rfl
    case deep => rw [mt_deep, h]; rfl
    all_goals exact h

abbrev upd (v : Nat → Nat) (k x : Nat) : Nat → Nat := fun j => if j = k then x else v j
theorem upd_at (v : Nat → Nat) (k x : Nat) : upd v k x k = x := if_pos rfl
theorem upd_ne (v : Nat → Nat) {k j : Nat} (x : Nat) (h : j ≠ k) : upd v k x j = v j := if_neg h
/-- A star, or folders where one begins, take nothing. -/
def skips (t : Tok) (b : Bool) (x : Nat) : Bool := match t with
  | .star => true
  | .deep => b || x == 1
  | _ => false
def skipN (T : List Tok) (v : Nat → Nat) (b : Bool) : Nat → Nat → Nat
  | 0 => v
  | m + 1 =>
    let u := skipN T v b m
    match T[m]? with
    | none => u
    | some t => if u m ≠ 0 ∧ skips t b (u m) = true then upd u (m + 1) 1 else u
def skipF (T : List Tok) (v : Nat → Nat) (b : Bool) : Nat → Nat := skipN T v b T.length
def stepT (sh : Bool) (t : Tok) (c : UInt8) (m : Nat) (u : Nat → Nat) : Nat → Nat := match t with
  | .star => if takesF sh .star c then upd u m 1 else u
  | .deep => upd u m 2
  | t => if takesF sh t c then upd u (m + 1) 1 else u
def stepN (sh : Bool) (T : List Tok) (v : Nat → Nat) (c : UInt8) : Nat → Nat → Nat
  | 0 => fun _ => 0
  | m + 1 =>
    let u := stepN sh T v c m
    match T[m]? with
    | none => u
    | some t => if v m = 0 then u else stepT sh t c m u
def stepF (sh : Bool) (T : List Tok) (v : Nat → Nat) (c : UInt8) : Nat → Nat := skipF T (stepN sh T v c T.length) (c == 47)
def walkN (sh : Bool) (T : List Tok) : List UInt8 → (Nat → Nat) → Nat → Nat
  | [], v => v
  | c :: s, v => walkN sh T s (stepF sh T v c)
def walkF (sh : Bool) (T : List Tok) (s : List UInt8) : Nat → Nat := walkN sh T s (skipF T (upd (fun _ => 0) 0 1) true)

/-- What a state says before the tokens that take nothing were gone through. -/
def pmk (sh : Bool) (T : List Tok) (v : Nat → Nat) (b : Bool) (k : Nat) (r : List UInt8) : Prop :=
  match T.drop k with
  | .deep :: T' => if v k ≠ 1 ∧ b = false then sacc sh (.deep :: T') r = true else mt sh (.deep :: T') r = true
  | T' => mt sh T' r = true
theorem pmk_one {sh : Bool} {T : List Tok} {v : Nat → Nat} {b : Bool} {k : Nat} {r : List UInt8} (h : v k = 1) : pmk sh T v b k r ↔ mt sh (T.drop k) r = true := by
  unfold pmk
  split
  · rename_i h2
    rw [h2]
    rw [if_neg (fun hh => hh.1 h)]
  · rfl
theorem pmk_b {sh : Bool} {T : List Tok} {v : Nat → Nat} {k : Nat} {r : List UInt8} : pmk sh T v true k r ↔ mt sh (T.drop k) r = true := by
  unfold pmk
  split
  · rename_i h2
    rw [h2]
    rw [if_neg (fun hh => absurd hh.2 (by decide))]
  · rfl
theorem pmk_mt {sh : Bool} {T : List Tok} {v : Nat → Nat} {b : Bool} {k : Nat} {r : List UInt8} (h : pmk sh T v b k r) : mt sh (T.drop k) r = true := by
  unfold pmk at h
  split at h
  · rename_i h2
    rw [h2]
    split at h
    · exact sacc_mt _ _ _ h
    · exact h
  · exact h
theorem pmk_congr {sh : Bool} {T : List Tok} {v u : Nat → Nat} {b : Bool} {k : Nat} {r : List UInt8} (h : v k = u k) : pmk sh T v b k r ↔ pmk sh T u b k r := by
  unfold pmk
  rw [h]
/-- The states mean. -/
def Vm (sh : Bool) (T : List Tok) (v : Nat → Nat) (r : List UInt8) : Prop := ∃ k, k ≤ T.length ∧ v k ≠ 0 ∧ sacc sh (T.drop k) r = true
def Pm (sh : Bool) (T : List Tok) (v : Nat → Nat) (b : Bool) (r : List UInt8) : Prop := ∃ k, k ≤ T.length ∧ v k ≠ 0 ∧ pmk sh T v b k r
/-- In between: the first m are gone through. -/
def Im (sh : Bool) (T : List Tok) (u : Nat → Nat) (b : Bool) (r : List UInt8) (m : Nat) : Prop := ∃ k, k ≤ T.length ∧ u k ≠ 0 ∧ ((k < m ∧ sacc sh (T.drop k) r = true) ∨ (m ≤ k ∧ pmk sh T u b k r))
theorem Im.zero {sh : Bool} {T : List Tok} {u : Nat → Nat} {b : Bool} {r : List UInt8} : Im sh T u b r 0 ↔ Pm sh T u b r := by
  constructor
  · rintro ⟨k, h1, h2, h3 | h3⟩
    · omega
    · exact ⟨k, h1, h2, h3.2⟩
  · rintro ⟨k, h1, h2, h3⟩
    exact ⟨k, h1, h2, .inr ⟨Nat.zero_le _, h3⟩⟩
/-- One token. -/
theorem Im.step {sh : Bool} {T : List Tok} {u : Nat → Nat} {b : Bool} {r : List UInt8} {m : Nat} (hm : m < T.length) :
    Im sh T (if u m ≠ 0 ∧ skips T[m] b (u m) = true then upd u (m + 1) 1 else u) b r (m + 1) ↔ Im sh T u b r m := by
  have hd : T.drop m = T[m] :: T.drop (m + 1) := List.drop_eq_getElem_cons hm
  by_cases h0 : u m = 0
  · rw [if_neg (fun h => h.1 h0)]
    constructor
    · rintro ⟨k, h1, h2, h3⟩
      refine ⟨k, h1, h2, ?_⟩
      have : k ≠ m := fun e => h2 (e ▸ h0)
      rcases h3 with h3 | h3
      · exact .inl ⟨by omega, h3.2⟩
      · exact .inr ⟨by omega, h3.2⟩
    · rintro ⟨k, h1, h2, h3⟩
      refine ⟨k, h1, h2, ?_⟩
      have : k ≠ m := fun e => h2 (e ▸ h0)
      rcases h3 with h3 | h3
      · exact .inl ⟨by omega, h3.2⟩
      · exact .inr ⟨by omega, h3.2⟩
  by_cases hs : skips T[m] b (u m) = true
  · rw [if_pos ⟨h0, hs⟩]
    have hp : pmk sh T u b m r ↔ mt sh (T.drop m) r = true := by
      cases ht : T[m] with
      | star => unfold pmk; rw [hd, ht]
      | deep =>
        rw [ht] at hs
        cases b with
        | true => exact pmk_b
        | false => exact pmk_one (by simpa [skips] using hs)
      | _ => rw [ht] at hs; exact absurd hs (by simp [skips])
    have hq : mt sh (T.drop m) r = (sacc sh (T.drop m) r || mt sh (T.drop (m + 1)) r) := by
      rw [hd]
      cases ht : T[m] with
      | star => exact mt_star _ _ _
      | deep => exact mt_deep _ _ _
      | _ => rw [ht] at hs; exact absurd hs (by simp [skips])
    constructor
    · rintro ⟨k, h1, h2, h3⟩
      rcases h3 with h3 | h3
      · by_cases hk : k = m
        · subst hk
          exact ⟨k, h1, h0, .inr ⟨Nat.le_refl _, hp.2 (by rw [hq, h3.2]; rfl)⟩⟩
        · exact ⟨k, h1, by rwa [upd_ne _ _ (by omega)] at h2, .inl ⟨by omega, h3.2⟩⟩
      · by_cases hk : k = m + 1
        · subst hk
          exact ⟨m, by omega, h0, .inr ⟨Nat.le_refl _, hp.2 (by rw [hq, pmk_mt h3.2, Bool.or_true])⟩⟩
        · exact ⟨k, h1, by rwa [upd_ne _ _ hk] at h2, .inr ⟨by omega, (pmk_congr (upd_ne _ _ hk)).1 h3.2⟩⟩
    · rintro ⟨k, h1, h2, h3⟩
      rcases h3 with h3 | h3
      · exact ⟨k, h1, by rw [upd_ne _ _ (by omega)]; exact h2, .inl ⟨by omega, h3.2⟩⟩
      · by_cases hk : k = m
        · subst hk
          have := hp.1 h3.2
          rw [hq, Bool.or_eq_true] at this
          rcases this with this | this
          · exact ⟨k, h1, by rw [upd_ne _ _ (by omega)]; exact h0, .inl ⟨by omega, this⟩⟩
          · exact ⟨k + 1, by omega, by rw [upd_at]; decide, .inr ⟨Nat.le_refl _, (pmk_one (upd_at _ _ _)).2 this⟩⟩
        · by_cases hk2 : k = m + 1
          · subst hk2
            exact ⟨m + 1, h1, by rw [upd_at]; decide, .inr ⟨Nat.le_refl _, (pmk_one (upd_at _ _ _)).2 (pmk_mt h3.2)⟩⟩
          · exact ⟨k, h1, by rw [upd_ne _ _ hk2]; exact h2, .inr ⟨by omega, (pmk_congr (upd_ne _ _ hk2)).2 h3.2⟩⟩
  · rw [if_neg (fun h => hs h.2)]
    have hp : pmk sh T u b m r ↔ sacc sh (T.drop m) r = true := by
      unfold pmk
      rw [hd]
      cases ht : T[m] with
      | star => rw [ht] at hs; exact absurd rfl hs
      | deep =>
        rw [ht] at hs
        simp [skips] at hs
        show (if _ then _ else _) ↔ _
        rw [if_pos ⟨hs.2, hs.1⟩]
      | one c => exact Iff.rfl
      | any1 => exact Iff.rfl
      | set f => exact Iff.rfl
    constructor
    · rintro ⟨k, h1, h2, h3⟩
      by_cases hk : k = m
      · subst hk
        rcases h3 with h3 | h3
        · exact ⟨k, h1, h2, .inr ⟨Nat.le_refl _, hp.2 h3.2⟩⟩
        · omega
      · rcases h3 with h3 | h3
        · exact ⟨k, h1, h2, .inl ⟨by omega, h3.2⟩⟩
        · exact ⟨k, h1, h2, .inr ⟨by omega, h3.2⟩⟩
    · rintro ⟨k, h1, h2, h3⟩
      by_cases hk : k = m
      · subst hk
        rcases h3 with h3 | h3
        · omega
        · exact ⟨k, h1, h2, .inl ⟨by omega, hp.1 h3.2⟩⟩
      · rcases h3 with h3 | h3
        · exact ⟨k, h1, h2, .inl ⟨by omega, h3.2⟩⟩
        · exact ⟨k, h1, h2, .inr ⟨by omega, h3.2⟩⟩
theorem skipN_m {sh : Bool} {T : List Tok} {v : Nat → Nat} {b : Bool} {r : List UInt8} : ∀ m, m ≤ T.length → (Im sh T (skipN T v b m) b r m ↔ Pm sh T v b r)
  | 0, _ => Im.zero
  | m + 1, h => by
    have ih := skipN_m (sh := sh) (T := T) (v := v) (b := b) (r := r) m (by omega)
    have hm : m < T.length := by omega
    rw [← ih, ← Im.step (u := skipN T v b m) hm]
    have he : skipN T v b (m + 1) = if skipN T v b m m ≠ 0 ∧ skips T[m] b (skipN T v b m m) = true then upd (skipN T v b m) (m + 1) 1 else skipN T v b m := by
      show (match T[m]? with | none => skipN T v b m | some t => if skipN T v b m m ≠ 0 ∧ skips t b (skipN T v b m m) = true then upd (skipN T v b m) (m + 1) 1 else skipN T v b m) = _
      rw [List.getElem?_eq_getElem hm]
    rw [he]
theorem sacc_end (sh : Bool) (r : List UInt8) : sacc sh [] r = true ↔ mt sh [] r = true := Iff.rfl
theorem skipF_m {sh : Bool} {T : List Tok} {v : Nat → Nat} {b : Bool} {r : List UInt8} : Vm sh T (skipF T v b) r ↔ Pm sh T v b r := by
  rw [← skipN_m (sh := sh) (v := v) (b := b) (r := r) T.length (Nat.le_refl _)]
  unfold skipF
  constructor
  · rintro ⟨k, h1, h2, h3⟩
    refine ⟨k, h1, h2, ?_⟩
    by_cases hk : k < T.length
    · exact .inl ⟨hk, h3⟩
    · refine .inr ⟨by omega, ?_⟩
      have hd : T.drop k = [] := List.drop_eq_nil_of_le (by omega)
      unfold pmk
      rw [hd] at h3 ⊢
      exact h3
  · rintro ⟨k, h1, h2, h3⟩
    refine ⟨k, h1, h2, ?_⟩
    rcases h3 with h3 | h3
    · exact h3.2
    · have hd : T.drop k = [] := List.drop_eq_nil_of_le (by omega)
      have := pmk_mt h3.2
      rw [hd] at this ⊢
      exact this
/-- Folders stand first, behind folders or behind a '/'. -/
def WfT (T : List Tok) : Prop := ∀ k, T[k + 1]? = some .deep → T[k]? = some .deep ∨ T[k]? = some (.one 47)
theorem takes_one (sh : Bool) (c d : UInt8) : takesF sh (.one c) d = (c == d) := by unfold takesF; split <;> rfl
/-- What the step has set is behind what it went through. -/
theorem stepN_far {sh : Bool} {T : List Tok} {v : Nat → Nat} {c : UInt8} : ∀ m j, m < j → stepN sh T v c m j = 0
  | 0, _, _ => rfl
  | m + 1, j, h => by
    have ih := stepN_far (sh := sh) (T := T) (v := v) (c := c) m j (by omega)
    show (match T[m]? with | none => stepN sh T v c m | some t => if v m = 0 then stepN sh T v c m else stepT sh t c m (stepN sh T v c m)) j = 0
    have hu : ∀ x y, y < j → upd (stepN sh T v c m) y x j = 0 := fun x y hy => by rw [upd_ne _ _ (by omega)]; exact ih
    cases T[m]? with
    | none => exact ih
    | some t =>
      show (if v m = 0 then stepN sh T v c m else stepT sh t c m (stepN sh T v c m)) j = 0
      by_cases h0 : v m = 0
      · rw [if_pos h0]; exact ih
      · rw [if_neg h0]
        cases t <;> simp only [stepT] <;> first | exact hu _ _ (by omega) | (split <;> first | exact hu _ _ (by omega) | exact ih)
theorem stepN_deep {sh : Bool} {T : List Tok} {v : Nat → Nat} {c : UInt8} (hw : WfT T) {m : Nat} (hm : T[m]? = some .deep) (h : stepN sh T v c m m ≠ 0) : c = 47 := by
  cases m with
  | zero => exact absurd rfl h
  | succ m =>
    have hf := stepN_far (sh := sh) (T := T) (v := v) (c := c) m (m + 1) (by omega)
    have h' : (match T[m]? with | none => stepN sh T v c m | some t => if v m = 0 then stepN sh T v c m else stepT sh t c m (stepN sh T v c m)) (m + 1) ≠ 0 := h
    rcases hw m hm with h2 | h2
    · rw [h2] at h'
      simp only [stepT] at h'
      split at h'
      · exact absurd hf h'
      · rw [upd_ne _ _ (by omega)] at h'; exact absurd hf h'
    · rw [h2] at h'
      simp only [stepT, takes_one] at h'
      split at h'
      · exact absurd hf h'
      · split at h'
        · rename_i h3; exact (beq_iff_eq.1 h3).symm
        · exact absurd hf h'
def Sm (sh : Bool) (T : List Tok) (v : Nat → Nat) (s : List UInt8) (m : Nat) : Prop := ∃ k, k < m ∧ v k ≠ 0 ∧ sacc sh (T.drop k) s = true
theorem stepN_m {sh : Bool} {T : List Tok} {v : Nat → Nat} {c : UInt8} {r : List UInt8} (hw : WfT T) : ∀ m, m ≤ T.length → (Pm sh T (stepN sh T v c m) (c == 47) r ↔ Sm sh T v (c :: r) m)
  | 0, _ => by
    constructor
    · rintro ⟨k, _, h, _⟩; exact absurd rfl h
    · rintro ⟨k, h, _⟩; omega
  | m + 1, h => by
    have ih := stepN_m (sh := sh) (T := T) (v := v) (c := c) (r := r) hw m (by omega)
    have hm : m < T.length := by omega
    have hd : T.drop m = T[m] :: T.drop (m + 1) := List.drop_eq_getElem_cons hm
    have hS : Sm sh T v (c :: r) (m + 1) ↔ Sm sh T v (c :: r) m ∨ (v m ≠ 0 ∧ sacc sh (T.drop m) (c :: r) = true) := by
      constructor
      · rintro ⟨k, h1, h2, h3⟩
        by_cases hk : k = m
        · subst hk; exact .inr ⟨h2, h3⟩
        · exact .inl ⟨k, by omega, h2, h3⟩
      · rintro (⟨k, h1, h2, h3⟩ | ⟨h2, h3⟩)
        · exact ⟨k, by omega, h2, h3⟩
        · exact ⟨m, by omega, h2, h3⟩
    rw [hS, ← ih]
    have hdp := fun h1 h2 => stepN_deep (sh := sh) (T := T) (v := v) (c := c) hw (m := m) h1 h2
    have hfar := stepN_far (sh := sh) (T := T) (v := v) (c := c) m (m + 1) (by omega)
    have he : stepN sh T v c (m + 1) = if v m = 0 then stepN sh T v c m else stepT sh T[m] c m (stepN sh T v c m) := by
      show (match T[m]? with | none => stepN sh T v c m | some t => if v m = 0 then stepN sh T v c m else stepT sh t c m (stepN sh T v c m)) = _
      rw [List.getElem?_eq_getElem hm]
    rw [he]
    generalize stepN sh T v c m = u at *
    by_cases h0 : v m = 0
    · rw [if_pos h0]
      constructor
      · exact .inl
      · rintro (h | h)
        · exact h
        · exact absurd h0 h.1
    rw [if_neg h0]
    -- one more state at j, that is put to x
    have key : ∀ j x, j ≤ T.length → x ≠ 0 → (u j ≠ 0 → pmk sh T u (c == 47) j r → pmk sh T (upd u j x) (c == 47) j r) → (pmk sh T (upd u j x) (c == 47) j r ↔ sacc sh (T.drop m) (c :: r) = true) →
        (Pm sh T (upd u j x) (c == 47) r ↔ Pm sh T u (c == 47) r ∨ (v m ≠ 0 ∧ sacc sh (T.drop m) (c :: r) = true)) := by
      intro j x hj hx hold hnew
      constructor
      · rintro ⟨k, h1, h2, h3⟩
        by_cases hk : k = j
        · subst hk; exact .inr ⟨h0, hnew.1 h3⟩
        · exact .inl ⟨k, h1, by rwa [upd_ne _ _ hk] at h2, (pmk_congr (upd_ne _ _ hk)).1 h3⟩
      · rintro (⟨k, h1, h2, h3⟩ | ⟨h2, h3⟩)
        · by_cases hk : k = j
          · subst hk; exact ⟨k, h1, by rw [upd_at]; exact hx, hold h2 h3⟩
          · exact ⟨k, h1, by rw [upd_ne _ _ hk]; exact h2, (pmk_congr (upd_ne _ _ hk)).2 h3⟩
        · exact ⟨j, hj, by rw [upd_at]; exact hx, hnew.2 h3⟩
    have none : sacc sh (T.drop m) (c :: r) = false → (Pm sh T u (c == 47) r ↔ Pm sh T u (c == 47) r ∨ (v m ≠ 0 ∧ sacc sh (T.drop m) (c :: r) = true)) := by
      intro hn
      constructor
      · exact .inl
      · rintro (h | h)
        · exact h
        · rw [hn] at h; exact absurd h.2 (by decide)
    have plain : T[m].plain = true → (Pm sh T (if takesF sh T[m] c = true then upd u (m + 1) 1 else u) (c == 47) r ↔ Pm sh T u (c == 47) r ∨ (v m ≠ 0 ∧ sacc sh (T.drop m) (c :: r) = true)) := by
      intro hp
      have hs : sacc sh (T.drop m) (c :: r) = (takesF sh T[m] c && mt sh (T.drop (m + 1)) r) := by
        rw [hd]
        generalize T[m] = t at hp
        cases t <;> first | rfl | exact absurd hp (by decide)
      split
      · rename_i ht
        refine key (m + 1) 1 (by omega) (by decide) (fun h => absurd hfar h) ?_
        rw [pmk_one (upd_at _ _ _), hs, ht, Bool.true_and]
      · rename_i ht
        exact none (by rw [hs]; simp [ht])
    cases ht : T[m] with
    | star =>
      have hs : sacc sh (T.drop m) (c :: r) = (takesF sh .star c && mt sh (T.drop m) r) := by rw [hd, ht]; rfl
      simp only [stepT]
      split
      · rename_i h2
        refine key m 1 (by omega) (by decide) (fun _ h => (pmk_one (upd_at _ _ _)).2 (pmk_mt h)) ?_
        rw [pmk_one (upd_at _ _ _), hs, h2, Bool.true_and]
      · rename_i h2
        exact none (by rw [hs]; simp [h2])
    | deep =>
      have ht2 : T[m]? = some .deep := by rw [List.getElem?_eq_getElem hm, ht]
      simp only [stepT]
      have hs : sacc sh (T.drop m) (c :: r) = ((c == 47 && mt sh (T.drop (m + 1)) r) || behind (mt sh (T.drop (m + 1))) r) := by rw [hd, ht]; rfl
      have h3 : (upd u m 2) m ≠ 1 := by rw [upd_at]; decide
      refine key m 2 (by omega) (by decide) (fun h h4 => ?_) ?_
      · obtain rfl := hdp ht2 h
        exact pmk_b.2 (pmk_mt h4)
      · rw [hs]
        by_cases hc : c = 47
        · subst hc
          have : mt sh (T.drop m) r = (behind (mt sh (T.drop (m + 1))) r || mt sh (T.drop (m + 1)) r) := by rw [hd, ht]; exact mt_deep _ _ _
          rw [show ((47 : UInt8) == 47) = true from rfl, pmk_b, this, Bool.or_comm, Bool.true_and]
        · have hc2 : (c == 47) = false := by simpa using hc
          rw [hc2, Bool.false_and, Bool.false_or]
          unfold pmk
          rw [hd, ht]
          show (if _ then _ else _) ↔ _
          rw [if_pos ⟨h3, rfl⟩]; rfl
    | one d => have := plain (by rw [ht]; rfl); rw [ht] at this; exact this
    | any1 => have := plain (by rw [ht]; rfl); rw [ht] at this; exact this
    | set f => have := plain (by rw [ht]; rfl); rw [ht] at this; exact this
theorem stepF_m {sh : Bool} {T : List Tok} {v : Nat → Nat} {c : UInt8} {r : List UInt8} (hw : WfT T) : Vm sh T (stepF sh T v c) r ↔ Vm sh T v (c :: r) := by
  unfold stepF
  rw [skipF_m, stepN_m hw T.length (Nat.le_refl _)]
  constructor
  · rintro ⟨k, h1, h2, h3⟩; exact ⟨k, by omega, h2, h3⟩
  · rintro ⟨k, h1, h2, h3⟩
    refine ⟨k, ?_, h2, h3⟩
    rcases Nat.lt_or_ge k T.length with h | h
    · exact h
    · rw [List.drop_eq_nil_of_le h] at h3; exact Bool.noConfusion h3
theorem walkN_m {sh : Bool} {T : List Tok} (hw : WfT T) : ∀ (s : List UInt8) (v : Nat → Nat), walkN sh T s v T.length ≠ 0 ↔ Vm sh T v s
  | [], v => by
    constructor
    · intro h
      exact ⟨T.length, Nat.le_refl _, h, by rw [List.drop_length]; rfl⟩
    · rintro ⟨k, h1, h2, h3⟩
      rcases Nat.lt_or_ge k T.length with h | h
      · rw [List.drop_eq_getElem_cons h] at h3
        exfalso
        revert h3
        cases T[k] <;> (show ¬ (false = true)) <;> decide
      · obtain rfl : k = T.length := by omega
        exact h2
  | c :: s, v => (walkN_m hw s _).trans (stepF_m hw)
theorem walkF_m {sh : Bool} {T : List Tok} (hw : WfT T) (s : List UInt8) : (walkF sh T s T.length != 0) = mt sh T s := by
  rw [Bool.eq_iff_iff, bne_iff_ne]
  unfold walkF
  rw [walkN_m hw, skipF_m]
  constructor
  · rintro ⟨k, h1, h2, h3⟩
    have hk : k = 0 := by
      rcases Nat.eq_zero_or_pos k with h | h
      · exact h
      · exact absurd (upd_ne _ _ (by omega)) h2
    subst hk
    have := pmk_mt h3
    simpa using this
  · intro h
    exact ⟨0, Nat.zero_le _, by rw [upd_at]; decide, (pmk_one (upd_at _ _ _)).2 (by simpa using h)⟩
end Go.Hd
