/- Joined: what one statement of this layer stands on, part 9 of 26; nothing is assumed. -/
import Derived.Test.YtpchogicdnfggaaGreatDoorKI6
import Derived.Test.YtpchogicdnfggaaGreatDoorKI8
set_option maxRecDepth 20000
namespace Go.Proofs.YtpchogicdnfggaaGreatDoor
open Go.RowKit Go.Hd

mutual
/-- A value without what plays no part. -/
def normV : PV → PV
  | .mk k n b t ks l => if k = 3 then pNum n else if k = 4 then pByt b else if k = 5 then pTxt t else if k = 6 then pList (normL l) else if k = 7 then .mk 7 0 [] [] ks (normL l) else pKind k
def normL : List PV → List PV
  | [] => []
  | x :: l => normV x :: normL l
end
theorem normL_len : ∀ l : List PV, (normL l).length = l.length
  | [] => by unfold normL; rfl
  | x :: l => by unfold normL; rw [List.length_cons, List.length_cons, normL_len l]
theorem normV_mk (k n : Int) (b t : List UInt8) (ks : List (List UInt8)) (l : List PV) : normV (.mk k n b t ks l) = if k = 3 then pNum n else if k = 4 then pByt b else if k = 5 then pTxt t else if k = 6 then pList (normL l) else if k = 7 then .mk 7 0 [] [] ks (normL l) else pKind k := by
  rw [normV]
mutual
theorem sameV_norm : ∀ v w : PV, sameV v w = true ↔ normV v = normV w
  | .mk k n b t ks l, .mk k' n' b' t' ks' l' => by
    have hl := sameL_norm l l'
    rw [normV_mk, normV_mk]
    unfold sameV
    simp only [Bool.and_eq_true, Bool.or_eq_true, beq_iff_eq, bne_iff_ne, hl]
    unfold pNum pByt pTxt pList pKind
    constructor
    · rintro ⟨⟨⟨⟨⟨rfl, h3⟩, h4⟩, h5⟩, h7⟩, h6⟩
      by_cases k3 : k = 3
      · rw [if_pos k3, if_pos k3]; rcases h3 with h | h; exact absurd k3 h; rw [h]
      by_cases k4 : k = 4
      · rw [if_neg k3, if_neg k3, if_pos k4, if_pos k4]; rcases h4 with h | h; exact absurd k4 h; rw [h]
      by_cases k5 : k = 5
      · rw [if_neg k3, if_neg k3, if_neg k4, if_neg k4, if_pos k5, if_pos k5]; rcases h5 with h | h; exact absurd k5 h; rw [h]
      by_cases k6 : k = 6
      · rw [if_neg k3, if_neg k3, if_neg k4, if_neg k4, if_neg k5, if_neg k5, if_pos k6, if_pos k6]
        rcases h6 with h | h
        · exact absurd k6 h.1
        · rw [h]
      by_cases k7 : k = 7
      · rw [if_neg k3, if_neg k3, if_neg k4, if_neg k4, if_neg k5, if_neg k5, if_neg k6, if_neg k6, if_pos k7, if_pos k7]
        rcases h6 with h | h
        · exact absurd k7 h.2
        · rcases h7 with g | g
          · exact absurd k7 g
          · rw [h, g]
      rw [if_neg k3, if_neg k3, if_neg k4, if_neg k4, if_neg k5, if_neg k5, if_neg k6, if_neg k6, if_neg k7, if_neg k7]
    · intro h
      have hk : k = k' := by
        have e1 : ∀ (k n : Int) (b t : List UInt8) (ks : List (List UInt8)) (l : List PV), PV.kind (if k = 3 then PV.mk 3 n [] [] [] [] else if k = 4 then PV.mk 4 0 b [] [] [] else if k = 5 then PV.mk 5 0 [] t [] [] else if k = 6 then PV.mk 6 0 [] [] [] (normL l) else if k = 7 then PV.mk 7 0 [] [] ks (normL l) else PV.mk k 0 [] [] [] []) = k := by
          intro k n b t ks l
          repeat' split
          all_goals (first | (rename_i h; exact h.symm) | rfl | (simp only [PV.kind]; omega))
        have := congrArg PV.kind h
        rw [e1, e1] at this
        exact this
      subst hk
      refine ⟨⟨⟨⟨⟨rfl, ?_⟩, ?_⟩, ?_⟩, ?_⟩, ?_⟩
      · by_cases k3 : k = 3
        · rw [if_pos k3, if_pos k3] at h; cases h; exact .inr rfl
        · exact .inl k3
      · by_cases k4 : k = 4
        · have k3 : ¬ k = 3 := by omega
          rw [if_neg k3, if_neg k3, if_pos k4, if_pos k4] at h; cases h; exact .inr rfl
        · exact .inl k4
      · by_cases k5 : k = 5
        · have k3 : ¬ k = 3 := by omega
          have k4 : ¬ k = 4 := by omega
          rw [if_neg k3, if_neg k3, if_neg k4, if_neg k4, if_pos k5, if_pos k5] at h; cases h; exact .inr rfl
        · exact .inl k5
      · by_cases k7 : k = 7
        · have k3 : ¬ k = 3 := by omega
          have k4 : ¬ k = 4 := by omega
          have k5 : ¬ k = 5 := by omega
          have k6 : ¬ k = 6 := by omega
          rw [if_neg k3, if_neg k3, if_neg k4, if_neg k4, if_neg k5, if_neg k5, if_neg k6, if_neg k6, if_pos k7, if_pos k7] at h
          simp only [PV.mk.injEq] at h
          exact .inr h.2.2.2.2.1
        · exact .inl k7
      · by_cases k6 : k = 6
        · have k3 : ¬ k = 3 := by omega
          have k4 : ¬ k = 4 := by omega
          have k5 : ¬ k = 5 := by omega
          rw [if_neg k3, if_neg k3, if_neg k4, if_neg k4, if_neg k5, if_neg k5, if_pos k6, if_pos k6] at h
          simp only [PV.mk.injEq] at h
          exact .inr h.2.2.2.2.2
        · by_cases k7 : k = 7
          · have k3 : ¬ k = 3 := by omega
            have k4 : ¬ k = 4 := by omega
            have k5 : ¬ k = 5 := by omega
            rw [if_neg k3, if_neg k3, if_neg k4, if_neg k4, if_neg k5, if_neg k5, if_neg k6, if_neg k6, if_pos k7, if_pos k7] at h
            simp only [PV.mk.injEq] at h
            exact .inr h.2.2.2.2.2
          · exact .inl ⟨k6, k7⟩
theorem sameL_norm : ∀ l m : List PV, sameL l m = true ↔ normL l = normL m
  | [], [] => by simp [sameL, normL]
  | [], y :: m => by simp [sameL, normL]
  | x :: l, [] => by simp [sameL, normL]
  | x :: l, y :: m => by
    have h1 := sameV_norm x y
    have h2 := sameL_norm l m
    simp only [sameL, normL, Bool.and_eq_true, h1, h2, List.cons.injEq]
end
/-! What is read hangs on the bytes that are read; a beginning of them ends too early. -/
/-! What was written is read. -/
inductive OkV : PV → Prop
  | mk {k n : Int} {b t : List UInt8} {ks : List (List UInt8)} {l : List PV} (hn : in64 n) (hl : ∀ x ∈ l, OkV x) : OkV (.mk k n b t ks l)
/-- What the writer's law says of one value. -/
def DE (d : Nat) (v : PV) : Prop := ∀ l0 x, encO d (some l0) v = some x → ∃ e, x = l0 ++ e ∧ ∀ r, decV d (e ++ r) = .ok (normV v) r
theorem putO_small {l m x : List UInt8} (h : putO (some l) m = some x) : x.length ≤ 65536 := (putO_len h).2
theorem fold_len {α : Type} {f : Option (List UInt8) → α → Option (List UInt8)} (hn : ∀ a, f none a = none) (hf : ∀ a l x, l.length ≤ 65536 → f (some l) a = some x → x.length ≤ 65536) : ∀ (l : List α) (o : Option (List UInt8)) (x : List UInt8), (∀ y, o = some y → y.length ≤ 65536) → l.foldl f o = some x → x.length ≤ 65536
  | [], o, x, ho, h => ho x h
  | a :: l, o, x, ho, h => by
    rw [List.foldl_cons] at h
    cases o with
    | none => rw [hn, foldl_none f hn] at h; cases h
    | some y => exact fold_len hn hf l _ x (fun z hz => hf a y z (ho y rfl) hz) h
theorem text_small {l m x : List UInt8} (h : textO (some l) m = some x) : x.length ≤ 65536 := by
  unfold textO at h
  repeat' split at h
  all_goals first | exact putO_small h | cases h
theorem many_small {a b : UInt8} {l x : List UInt8} {n : Nat} (h : manyO a b (some l) n = some x) : x.length ≤ 65536 := by
  unfold manyO at h
  repeat' split at h
  all_goals first | exact putO_small h | cases h
theorem enc_len : ∀ (d : Nat) (v : PV) (l0 x : List UInt8), l0.length ≤ 65536 → encO d (some l0) v = some x → x.length ≤ 65536
  | 0, v, l0, x, h0, h => by cases h; exact h0
  | d + 1, .mk k n b t ks l, l0, x, h0, h => by
    unfold encO at h
    repeat' split at h
    · exact putO_small h
    · exact putO_small h
    · exact putO_small h
    · exact putO_small h
    · unfold blobO at h
      repeat' split at h
      all_goals first | exact putO_small h | cases h
    · exact text_small h
    · exact fold_len (encO_none d) (fun a l x hl hh => enc_len d a l x hl hh) l _ x (fun y hy => many_small hy) h
    · refine fold_len (f := fun o x => encO d (textO o x.1) x.2) (fun a => by simp only [textO_none]; exact encO_none d a.2) (fun a l x hl hh => ?_) (ks.zip l) _ x (fun y hy => many_small hy) h
      cases ht : textO (some l) a.1 with
      | none => simp only [ht] at hh; rw [encO_none] at hh; cases hh
      | some y => simp only [ht] at hh; exact enc_len d a.2 y x (text_small ht) hh
end Go.Proofs.YtpchogicdnfggaaGreatDoor
