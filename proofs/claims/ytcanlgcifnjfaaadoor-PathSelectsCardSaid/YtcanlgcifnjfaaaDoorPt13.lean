/- Layer 20: tokens and matches put one behind the other. -/
import Derived.Test.YtcanlgcifnjfaaaDoorPt12
set_option maxRecDepth 20000
namespace Go.Proofs.YtcanlgcifnjfaaaDoor
open Go.RowKit Go.Hd
theorem headB_app {ok : UInt8 → Bool} {p q : List UInt8 → Bool} {s t : List UInt8} (h : ∀ r, p r = true → q (r ++ t) = true) (hh : headB ok p s = true) : headB ok q (s ++ t) = true := by
  cases s with
  | nil => cases hh
  | cons d r =>
    simp only [headB, Bool.and_eq_true, List.cons_append] at hh ⊢
    exact ⟨hh.1, h r hh.2⟩
theorem starB_app {ok : UInt8 → Bool} {p q : List UInt8 → Bool} {t : List UInt8} (h : ∀ r, p r = true → q (r ++ t) = true) : ∀ s, starB ok p s = true → starB ok q (s ++ t) = true
  | [], hh => by
    have h1 := h [] hh
    rw [List.nil_append] at h1 ⊢
    cases t with
    | nil => exact h1
    | cons d r => simp only [starB, Bool.or_eq_true]; exact .inl h1
  | d :: r, hh => by
    simp only [starB, Bool.or_eq_true, Bool.and_eq_true, List.cons_append] at hh ⊢
    rcases hh with hh | hh
    · exact .inl (h (d :: r) hh)
    · exact .inr ⟨hh.1, starB_app h r hh.2⟩
theorem behind_app {p q : List UInt8 → Bool} {t : List UInt8} (h : ∀ r, p r = true → q (r ++ t) = true) : ∀ s, behind p s = true → behind q (s ++ t) = true
  | [], hh => by cases hh
  | d :: r, hh => by
    simp only [behind, Bool.or_eq_true, Bool.and_eq_true, List.cons_append] at hh ⊢
    rcases hh with hh | hh
    · exact .inl ⟨hh.1, h r hh.2⟩
    · exact .inr (behind_app h r hh)
theorem mt_app {sh : Bool} {T2 : List Tok} {t : List UInt8} (h2 : mt sh T2 t = true) : ∀ (T1 : List Tok) (s : List UInt8), mt sh T1 s = true → mt sh (T1 ++ T2) (s ++ t) = true
  | [], s, h => by
    cases s with
    | nil => exact h2
    | cons d r => cases h
  | .star :: T, s, h => starB_app (fun r hr => mt_app h2 T r hr) s h
  | .deep :: T, s, h => by
    rw [List.cons_append]
    simp only [Hd.mt, Bool.or_eq_true] at h ⊢
    rcases h with h | h
    · exact .inl (mt_app h2 T s h)
    · exact .inr (behind_app (fun r hr => mt_app h2 T r hr) s h)
  | .one c :: T, s, h => headB_app (fun r hr => mt_app h2 T r hr) h
  | .any1 :: T, s, h => headB_app (fun r hr => mt_app h2 T r hr) h
  | .set f :: T, s, h => headB_app (fun r hr => mt_app h2 T r hr) h
/-- Fuel does not matter. -/
theorem toks_fuel {sh : Bool} : ∀ (n m : Nat) (sl : Bool) (s : List UInt8), s.length < n → s.length < m → toksF sh n sl s = toksF sh m sl s
  | 0, _, _, _, h, _ => by omega
  | _, 0, _, _, _, h => by omega
  | n + 1, m + 1, sl, [], _, _ => by rw [tok_nil, tok_nil]
  | n + 1, m + 1, sl, c :: r, h1, h2 => by
    have ih := fun sl' (r' : List UInt8) (hr : r'.length ≤ r.length) => toks_fuel (sh := sh) n m sl' r' (by simp at h1; omega) (by simp at h2; omega)
    by_cases hd : sh = true ∧ sl = true ∧ beginsB (c :: r) [42, 42, 47] = true
    · obtain ⟨rfl, g1, g2⟩ := hd
      rw [tok_deep g1 g2, tok_deep g1 g2, ih _ _ (by simp)]
    · rw [tok_other hd, tok_other hd, ih _ _ (Nat.le_refl _), ih _ _ (Nat.le_refl _)]
      cases hS : setF r with
      | none => rfl
      | some fk =>
        obtain ⟨f, k⟩ := fk
        simp only
        rw [ih _ _ (by simp)]
theorem toks_sl (n : Nat) (a b : Bool) (s : List UInt8) : toksF false n a s = toksF false n b s := by
  cases n with
  | zero => rfl
  | succ n =>
    cases s with
    | nil => rw [tok_nil, tok_nil]
    | cons c r => rw [tok_other (by simp), tok_other (by simp)]
theorem idx_app {l q : List UInt8} {c : UInt8} {o : Nat} (h : Lib.indexByte l c = (o : Int)) : Lib.indexByte (l ++ q) c = (o : Int) := by
  obtain ⟨h1, h2⟩ := Lib.indexByte_some h
  obtain ⟨ho, he⟩ := List.getElem?_eq_some_iff.1 h1
  have e : l = l.take o ++ c :: l.drop (o + 1) := by
    conv => lhs; rw [← List.take_append_drop o l]
    rw [List.drop_eq_getElem_cons ho, he]
  have hn : c ∉ l.take o := fun hm => by
    obtain ⟨j, hj, e2⟩ := List.getElem_of_mem hm
    have hj2 : j < o := by simp at hj; omega
    exact h2 j hj2 (by rw [← e2, List.getElem_take, List.getElem?_eq_getElem])
  rw [e, List.append_assoc, List.cons_append, idx_at _ _ _ hn]
  simp; omega
theorem setF_app {r q : List UInt8} {f : Nat → Bool} {k : Nat} (h : setF r = some (f, k)) : setF (r ++ q) = some (f, k) := by
  have hk := setF_end h
  have hfr : frF (r ++ q) = frF r := by
    cases r with
    | nil => exfalso; have h3 := hk.2.1; have h4 := hk.1; rw [List.length_nil] at h3; omega
    | cons c r => rfl
  unfold setF at h ⊢
  rw [hfr]
  split at h
  · cases h
  · split at h
    · cases h
    · rename_i h1 h2
      obtain ⟨o, ho⟩ : ∃ o : Nat, Lib.indexByte (r.drop (frF r + 1)) 93 = (o : Int) := ⟨(Lib.indexByte (r.drop (frF r + 1)) 93).toNat, by omega⟩
      have hl := (List.getElem?_eq_some_iff.1 (Lib.indexByte_some ho).1).1
      rw [List.length_drop] at hl
      have hd : (r ++ q).drop (frF r + 1) = r.drop (frF r + 1) ++ q := List.drop_append_of_le_length (by omega)
      have hd2 : (r ++ q).drop (frF r) = r.drop (frF r) ++ q := List.drop_append_of_le_length (by omega)
      rw [hd, hd2, idx_app ho, if_neg (by rw [List.length_append]; omega), if_neg (by omega), ← h, ho]
      simp only [Int.toNat_natCast]
      rw [List.take_append_of_le_length (by rw [List.length_drop]; omega)]
theorem toks_app {q : List UInt8} {T2 : List Tok} (h2 : toksF false (q.length + 1) true q = some T2) : ∀ (n : Nat) (sl : Bool) (p : List UInt8) (T1 : List Tok), toksF false n sl p = some T1 → ∀ N sl', (p ++ q).length < N → toksF false N sl' (p ++ q) = some (T1 ++ T2)
  | 0, _, _, _, h, _, _, _ => by cases h
  | n + 1, sl, [], T1, h, N, sl', hN => by
    rw [tok_nil] at h; injection h with h; subst h
    rw [List.nil_append, List.nil_append, toks_fuel N (q.length + 1) sl' q (by simpa using hN) (by omega), toks_sl _ _ true]; exact h2
  | n + 1, sl, c :: p, T1, h, 0, sl', hN => by omega
  | n + 1, sl, c :: p, T1, h, N + 1, sl', hN => by
    have M : ∀ (o o' : Option (List Tok)) (t : Tok), (∀ T, o = some T → o' = some (T ++ T2)) → o.map (t :: ·) = some T1 → o'.map (t :: ·) = some (T1 ++ T2) := by
      intro o o' t ho h
      cases o with
      | none => cases h
      | some T => simp at h; subst h; rw [ho T rfl]; rfl
    rw [tok_other (by simp)] at h
    rw [List.cons_append, tok_other (by simp)]
    split at h
    · rename_i e; rw [if_pos e]
      exact M _ _ _ (fun T hT => toks_app h2 n _ _ T hT N _ (by simp at hN ⊢; omega)) h
    · rename_i e; rw [if_neg e]
      split at h
      · rename_i e; rw [if_pos e]
        exact M _ _ _ (fun T hT => toks_app h2 n _ _ T hT N _ (by simp at hN ⊢; omega)) h
      · rename_i e; rw [if_neg e]
        split at h
        · rename_i e; rw [if_pos e]
          cases hS : setF p with
          | none => rw [hS] at h; cases h
          | some fk =>
            obtain ⟨f, k⟩ := fk
            rw [hS] at h
            rw [setF_app hS]
            have hk := (setF_end hS).2.1
            simp only at h ⊢
            rw [List.drop_append_of_le_length hk]
            exact M _ _ _ (fun T hT => toks_app h2 n _ _ T hT N _ (by simp at hN ⊢; omega)) h
        · rename_i e; rw [if_neg e]
          exact M _ _ _ (fun T hT => toks_app h2 n _ _ T hT N _ (by simp at hN ⊢; omega)) h
end Go.Proofs.YtcanlgcifnjfaaaDoor
