/- Joined: what one statement of this layer stands on, part 8 of 25; nothing is assumed. -/
import Derived.Test.YtakliplkabgmbaaKR5
import Derived.Test.YtakliplkabgmbaaKR7
set_option maxRecDepth 20000
namespace Go.Proofs.Ytakliplkabgmbaa
open Go.RowKit Go.Hd
mutual
def normV : PV → PV
  | .mk k n b t ks l => if k = 3 then pNum n else if k = 4 then pByt b else if k = 5 then pTxt t else if k = 6 then pList (normL l) else if k = 7 then .mk 7 0 [] [] ks (normL l) else pKind k
def normL : List PV → List PV
  | [] => []
  | x :: l => normV x :: normL l
end
theorem normL_len : ∀ l : List PV, (normL l).length = l.length
  | [] => by unfold normL; rfl
  | x :: l => by unfold normL; rw [List.length_cons, List.length_cons, normL_len l]
theorem normV_mk (k n : Int) (b t : List UInt8) (ks : List (List UInt8)) (l : List PV) : normV (.mk k n b t ks l) = if k = 3 then pNum n else if k = 4 then pByt b else if k = 5 then pTxt t else if k = 6 then pList (normL l) else if k = 7 then .mk 7 0 [] [] ks (normL l) else pKind k := by
  rw [normV]
mutual
theorem sameV_norm : ∀ v w : PV, sameV v w = true ↔ normV v = normV w
  | .mk k n b t ks l, .mk k' n' b' t' ks' l' => by
    have hl := sameL_norm l l'
    rw [normV_mk, normV_mk]
    unfold sameV
    simp only [Bool.and_eq_true, Bool.or_eq_true, beq_iff_eq, bne_iff_ne, hl]
    unfold pNum pByt pTxt pList pKind
    constructor
    · rintro ⟨⟨⟨⟨⟨rfl, h3⟩, h4⟩, h5⟩, h7⟩, h6⟩
      by_cases k3 : k = 3
      · rw [if_pos k3, if_pos k3]; rcases h3 with h | h; exact absurd k3 h; rw [h]
      by_cases k4 : k = 4
      · rw [if_neg k3, if_neg k3, if_pos k4, if_pos k4]; rcases h4 with h | h; exact absurd k4 h; rw [h]
      by_cases k5 : k = 5
      · rw [if_neg k3, if_neg k3, if_neg k4, if_neg k4, if_pos k5, if_pos k5]; rcases h5 with h | h; exact absurd k5 h; rw [h]
      by_cases k6 : k = 6
      · rw [if_neg k3, if_neg k3, if_neg k4, if_neg k4, if_neg k5, if_neg k5, if_pos k6, if_pos k6]
        rcases h6 with h | h
        · exact absurd k6 h.1
        · rw [h]
      by_cases k7 : k = 7
      · rw [if_neg k3, if_neg k3, if_neg k4, if_neg k4, if_neg k5, if_neg k5, if_neg k6, if_neg k6, if_pos k7, if_pos k7]
        rcases h6 with h | h
        · exact absurd k7 h.2
        · rcases h7 with g | g
          · exact absurd k7 g
          · rw [h, g]
      rw [if_neg k3, if_neg k3, if_neg k4, if_neg k4, if_neg k5, if_neg k5, if_neg k6, if_neg k6, if_neg k7, if_neg k7]
    · intro h
      have hk : k = k' := by
        have e1 : ∀ (k n : Int) (b t : List UInt8) (ks : List (List UInt8)) (l : List PV), PV.kind (if k = 3 then PV.mk 3 n [] [] [] [] else if k = 4 then PV.mk 4 0 b [] [] [] else if k = 5 then PV.mk 5 0 [] t [] [] else if k = 6 then PV.mk 6 0 [] [] [] (normL l) else if k = 7 then PV.mk 7 0 [] [] ks (normL l) else PV.mk k 0 [] [] [] []) = k := by
          intro k n b t ks l
          repeat' split
          all_goals (first | (rename_i h; exact h.symm) | rfl | (simp only [PV.kind]; omega))
        have := congrArg PV.kind h
        rw [e1, e1] at this
        exact this
      subst hk
      refine ⟨⟨⟨⟨⟨rfl, ?_⟩, ?_⟩, ?_⟩, ?_⟩, ?_⟩
      · by_cases k3 : k = 3
        · rw [if_pos k3, if_pos k3] at h; cases h; exact .inr rfl
        · exact .inl k3
      · by_cases k4 : k = 4
        · have k3 : ¬ k = 3 := by omega
          rw [if_neg k3, if_neg k3, if_pos k4, if_pos k4] at h; cases h; exact .inr rfl
        · exact .inl k4
      · by_cases k5 : k = 5
        · have k3 : ¬ k = 3 := by omega
          have k4 : ¬ k = 4 := by omega
          rw [if_neg k3, if_neg k3, if_neg k4, if_neg k4, if_pos k5, if_pos k5] at h; cases h; exact .inr rfl
        · exact .inl k5
      · by_cases k7 : k = 7
        · have k3 : ¬ k = 3 := by omega
          have k4 : ¬ k = 4 := by omega
          have k5 : ¬ k = 5 := by omega
          have k6 : ¬ k = 6 := by omega
          rw [if_neg k3, if_neg k3, if_neg k4, if_neg k4, if_neg k5, if_neg k5, if_neg k6, if_neg k6, if_pos k7, if_pos k7] at h
          simp only [PV.mk.injEq] at h
          exact .inr h.2.2.2.2.1
        · exact .inl k7
      · by_cases k6 : k = 6
        · have k3 : ¬ k = 3 := by omega
          have k4 : ¬ k = 4 := by omega
          have k5 : ¬ k = 5 := by omega
          rw [if_neg k3, if_neg k3, if_neg k4, if_neg k4, if_neg k5, if_neg k5, if_pos k6, if_pos k6] at h
          simp only [PV.mk.injEq] at h
          exact .inr h.2.2.2.2.2
        · by_cases k7 : k = 7
          · have k3 : ¬ k = 3 := by omega
            have k4 : ¬ k = 4 := by omega
            have k5 : ¬ k = 5 := by omega
            rw [if_neg k3, if_neg k3, if_neg k4, if_neg k4, if_neg k5, if_neg k5, if_neg k6, if_neg k6, if_pos k7, if_pos k7] at h
            simp only [PV.mk.injEq] at h
            exact .inr h.2.2.2.2.2
          · exact .inl ⟨k6, k7⟩
theorem sameL_norm : ∀ l m : List PV, sameL l m = true ↔ normL l = normL m
  | [], [] => by simp [sameL, normL]
  | [], y :: m => by simp [sameL, normL]
  | x :: l, [] => by simp [sameL, normL]
  | x :: l, y :: m => by
    have h1 := sameV_norm x y
    have h2 := sameL_norm l m
    simp only [sameL, normL, Bool.and_eq_true, h1, h2, List.cons.injEq]
end
/-! What is read hangs on the bytes that are read; a beginning of them ends too early. -/
/-! What was written is read. -/
inductive OkV : PV → Prop
  | mk {k n : Int} {b t : List UInt8} {ks : List (List UInt8)} {l : List PV} (hn : in64 n) (hl : ∀ x ∈ l, OkV x) : OkV (.mk k n b t ks l)
theorem VAt.okV {w : World} {cs : List Value} {v : PV} (h : VAt w cs v) : OkV v := by
  induction h with
  | mk css hk hn hb hbc ht hks hkc hkt hl hlc hcs h6 _ ih =>
    refine .mk hn (fun x hx => ?_)
    obtain ⟨i, hi⟩ := List.getElem?_of_mem hx
    have hlt : i < css.length := by
      rw [hcs]
      rcases Nat.lt_or_ge i _ with h | h
      · exact h
      · rw [List.getElem?_eq_none h] at hi; cases hi
    exact ih i css[i] x (by simp [hlt]) hi
theorem putO_ok {l m x : List UInt8} (h : putO (some l) m = some x) : x = l ++ m := (putO_len h).1
theorem dec_text {l0 k x : List UInt8} (h : textO (some l0) k = some x) : ∃ (c : UInt8) (m : List UInt8), x = l0 ++ (c :: m) ∧ isText c.toNat = true ∧ ∀ r, textR c.toNat (m ++ r) = .ok k r := by
  unfold textO at h
  by_cases h1 : k.length ≤ 31
  · rw [if_pos h1] at h
    refine ⟨_, k, putO_ok h, ?_, fun r => ?_⟩
    all_goals
      have e := or_ofNat 0xa0 31 k.length (by decide) h1
      have e2 : (0xa0 ||| UInt8.ofNat k.length).toNat = 160 + k.length := by
        rw [e, UInt8.toNat_ofNat']
        show (160 + k.length) % 256 = _
        omega
      rw [e2]
    · unfold isText
      have : (160 + k.length) / 32 = 5 := by omega
      rw [this]; rfl
    · unfold textR
      rw [if_pos (by omega), show (160 + k.length) % 32 = k.length by omega]
      exact takeR_app k r rfl
  rw [if_neg h1] at h
  by_cases h2 : k.length ≤ 255
  · rw [if_pos h2] at h
    refine ⟨0xd9, bigB k.length 1 ++ k, putO_ok h, rfl, fun r => ?_⟩
    show (leastR 1 32 (bigB k.length 1 ++ k ++ r)).bind takeR = _
    rw [List.append_assoc, leastR_app _ (by omega) (by omega), Rs.bind_ok]
    exact takeR_app k r rfl
  rw [if_neg h2] at h
  by_cases h3 : k.length ≤ 65535
  · rw [if_pos h3] at h
    refine ⟨0xda, bigB k.length 2 ++ k, putO_ok h, rfl, fun r => ?_⟩
    show (leastR 2 256 (bigB k.length 2 ++ k ++ r)).bind takeR = _
    rw [List.append_assoc, leastR_app _ (by omega) (by omega), Rs.bind_ok]
    exact takeR_app k r rfl
  rw [if_neg h3] at h
  cases h
def DE (d : Nat) (v : PV) : Prop := ∀ l0 x, encO d (some l0) v = some x → ∃ e, x = l0 ++ e ∧ ∀ r, decV d (e ++ r) = .ok (normV v) r
theorem dec_list {d : Nat} : ∀ (l : List PV), (∀ v ∈ l, DE d v) → ∀ l0 x, l.foldl (encO d) (some l0) = some x → ∃ e, x = l0 ++ e ∧ ∀ r, listR (decV d) l.length (e ++ r) = .ok (normL l) r
  | [], _, l0, x, h => by
    cases h
    exact ⟨[], by simp, fun r => by rw [normL]; rfl⟩
  | v :: l, hv, l0, x, h => by
    rw [List.foldl_cons] at h
    cases h1 : encO d (some l0) v with
    | none => rw [h1, fold_enc_none] at h; cases h
    | some y =>
      rw [h1] at h
      obtain ⟨e1, rfl, a1⟩ := hv v (by simp) l0 y h1
      obtain ⟨e2, rfl, a2⟩ := dec_list l (fun w hw => hv w (by simp [hw])) _ x h
      refine ⟨e1 ++ e2, by simp, fun r => ?_⟩
      show (decV d (e1 ++ e2 ++ r)).bind _ = _
      rw [List.append_assoc, a1, Rs.bind_ok, a2, Rs.bind_ok, normL]
theorem dec_dict {d : Nat} : ∀ (ks : List (List UInt8)) (l : List PV) (prev : Option (List UInt8)), ks.length = l.length → (∀ v ∈ l, DE d v) → risesT ks = true → (∀ p k, prev = some p → ks.head? = some k → leT k p = false) → ∀ l0 x, (ks.zip l).foldl (fun o x => encO d (textO o x.1) x.2) (some l0) = some x → ∃ e, x = l0 ++ e ∧ ∀ r, dictR (decV d) l.length prev (e ++ r) = .ok (ks.zip (normL l)) r
  | [], [], prev, _, _, _, _, l0, x, h => by
    cases h
    exact ⟨[], by simp, fun r => by rw [normL]; rfl⟩
  | [], _ :: _, _, hl, _, _, _, _, _, _ => by simp at hl
  | _ :: _, [], _, hl, _, _, _, _, _, _ => by simp at hl
  | k :: ks, v :: l, prev, hl, hv, hr, hp, l0, x, h => by
    rw [List.zip_cons_cons, List.foldl_cons] at h
    cases h1 : textO (some l0) k with
    | none => simp only [h1] at h; rw [encO_none, fold_text_none] at h; cases h
    | some y =>
      simp only [h1] at h
      cases h2 : encO d (some y) v with
      | none => rw [h2, fold_text_none] at h; cases h
      | some z =>
        rw [h2] at h
        obtain ⟨c, m, rfl, ht, a1⟩ := dec_text h1
        obtain ⟨e2, rfl, a2⟩ := hv v (by simp) _ z h2
        have hr2 : risesT ks = true ∧ ∀ p k', some k = some p → ks.head? = some k' → leT k' p = false := by
          cases ks with
          | nil => exact ⟨rfl, fun p k' _ h => by simp at h⟩
          | cons k2 ks =>
            simp only [risesT, Bool.and_eq_true, Bool.not_eq_true'] at hr
            refine ⟨hr.2, fun p k' hp hk => ?_⟩
            simp at hp hk
            subst hp hk
            exact hr.1
        obtain ⟨e3, rfl, a3⟩ := dec_dict ks l (some k) (by simpa using hl) (fun w hw => hv w (by simp [hw])) hr2.1 hr2.2 _ x h
        refine ⟨(c :: m) ++ e2 ++ e3, by simp, fun r => ?_⟩
        have hkey : keyR prev (c :: (m ++ (e2 ++ (e3 ++ r)))) = .ok k (e2 ++ (e3 ++ r)) := by
          unfold keyR
          simp only
          rw [if_neg (by rw [ht]; decide), a1, Rs.bind_ok]
          cases prev with
          | none => rfl
          | some p =>
            have hle := hp p k rfl rfl
            exact if_neg (by show ¬ leT k p = true; rw [hle]; decide)
        show (keyR prev ((c :: m) ++ e2 ++ e3 ++ r)).bind _ = _
        simp only [List.append_assoc, List.cons_append]
        rw [hkey, Rs.bind_ok, a2, Rs.bind_ok, a3, Rs.bind_ok, normL, List.zip_cons_cons]
theorem lead_many (few : UInt8) (n : Nat) (h : n ≤ 15) (hf : few = 0x90 ∨ few = 0x80) : (few ||| UInt8.ofNat n).toNat = few.toNat + n := by
  rcases hf with rfl | rfl
  · rw [or_ofNat 0x90 15 n (by decide) h, UInt8.toNat_ofNat']
    show (144 + n) % 256 = 144 + n
    omega
  · rw [or_ofNat 0x80 15 n (by decide) h, UInt8.toNat_ofNat']
    show (128 + n) % 256 = 128 + n
    omega
theorem zip_map {α β : Type} : ∀ (a : List α) (b : List β), a.length = b.length → (a.zip b).map (·.1) = a ∧ (a.zip b).map (·.2) = b
  | [], [], _ => ⟨rfl, rfl⟩
  | [], _ :: _, h => by simp at h
  | _ :: _, [], h => by simp at h
  | x :: a, y :: b, h => by
    obtain ⟨h1, h2⟩ := zip_map a b (by simpa using h)
    simp only [List.zip_cons_cons, List.map_cons, h1, h2]
    exact ⟨trivial, trivial⟩
theorem lead_list {f : List UInt8 → Rs PV} {c : Nat} (r : List UInt8) (h : c / 16 = 9) : leadR f c r = (listR f (c % 16) r).bind fun l r2 => .ok (pList l) r2 := by
  unfold leadR
  rw [if_neg (by rw [isText_no (by omega) (by omega) (by omega)]; decide), if_neg (by omega), if_pos h]
theorem lead_dict {f : List UInt8 → Rs PV} {c : Nat} (r : List UInt8) (h : c / 16 = 8) : leadR f c r = (dictR f (c % 16) none r).bind fun l r2 => .ok (pDict l) r2 := by
  unfold leadR
  rw [if_neg (by rw [isText_no (by omega) (by omega) (by omega)]; decide), if_neg (by omega), if_neg (by omega), if_pos h]
theorem dec_enc : ∀ (d : Nat) (v : PV), canF d v = true → OkV v → DE d v
  | 0, v, hc, _ => by cases hc
  | d + 1, .mk k n b t ks l, hc, hok => by
    obtain ⟨k0, k7, hall, hmap⟩ := canF_list hc
    cases hok with
    | mk hn hol =>
    intro l0 x h
    rw [normV_mk]
    by_cases e0 : k = 0
    · subst e0
      have h : putO (some l0) [0xc0] = some x := h
      exact ⟨_, putO_ok h, fun r => rfl⟩
    by_cases e1 : k = 1
    · subst e1
      have h : putO (some l0) [0xc2] = some x := h
      exact ⟨_, putO_ok h, fun r => rfl⟩
    by_cases e2 : k = 2
    · subst e2
      have h : putO (some l0) [0xc3] = some x := h
      exact ⟨_, putO_ok h, fun r => rfl⟩
    by_cases e3 : k = 3
    · subst e3
      have h : putO (some l0) (intB n) = some x := h
      exact ⟨_, putO_ok h, fun r => dec_num d n hn r⟩
    by_cases e4 : k = 4
    · subst e4
      have h : blobO (some l0) b = some x := h
      unfold blobO at h
      by_cases h1 : b.length ≤ 255
      · rw [if_pos h1] at h
        refine ⟨_, putO_ok h, fun r => ?_⟩
        show ((bigR 1 (bigB b.length 1 ++ b ++ r)).bind takeR).bind _ = _
        rw [List.append_assoc, bigR_app, Rs.bind_ok, show b.length % 256 ^ 1 = b.length by omega, takeR_app b r rfl]; rfl
      rw [if_neg h1] at h
      by_cases h2 : b.length ≤ 65535
      · rw [if_pos h2] at h
        refine ⟨_, putO_ok h, fun r => ?_⟩
        show ((leastR 2 256 (bigB b.length 2 ++ b ++ r)).bind takeR).bind _ = _
        rw [List.append_assoc, leastR_app _ (by omega) (by omega), Rs.bind_ok, takeR_app b r rfl]; rfl
      rw [if_neg h2] at h
      cases h
    by_cases e5 : k = 5
    · subst e5
      have h : textO (some l0) t = some x := h
      obtain ⟨c, m, rfl, ht, a1⟩ := dec_text h
      refine ⟨_, rfl, fun r => ?_⟩
      show leadR (decV d) c.toNat (m ++ r) = _
      unfold leadR
      rw [if_pos ht, a1]; rfl
    have hDE : ∀ v ∈ l, DE d v := fun v hv => dec_enc d v (hall (by omega) v hv) (hol v hv)
    by_cases e6 : k = 6
    · subst e6
      have h : l.foldl (encO d) (manyO 0x90 0xdc (some l0) l.length) = some x := h
      unfold manyO at h
      by_cases h1 : l.length ≤ 15
      · rw [if_pos h1] at h
        cases hp : putO (some l0) [0x90 ||| UInt8.ofNat l.length] with
        | none => rw [hp, fold_enc_none] at h; cases h
        | some y =>
          rw [hp] at h
          obtain ⟨e, rfl, a⟩ := dec_list l hDE _ x h
          obtain rfl := putO_ok hp
          refine ⟨(0x90 ||| UInt8.ofNat l.length) :: e, by simp, fun r => ?_⟩
          show leadR (decV d) (0x90 ||| UInt8.ofNat l.length).toNat (e ++ r) = _
          rw [lead_many 0x90 _ h1 (.inl rfl), show (0x90 : UInt8).toNat = 144 from rfl, lead_list _ (by omega), show (144 + l.length) % 16 = l.length by omega, a]; rfl
      rw [if_neg h1] at h
      by_cases h2 : l.length ≤ 65535
      · rw [if_pos h2] at h
        cases hp : putO (some l0) (0xdc :: bigB l.length 2) with
        | none => rw [hp, fold_enc_none] at h; cases h
        | some y =>
          rw [hp] at h
          obtain ⟨e, rfl, a⟩ := dec_list l hDE _ x h
          obtain rfl := putO_ok hp
          refine ⟨(0xdc :: bigB l.length 2) ++ e, by simp, fun r => ?_⟩
          show (leastR 2 16 (bigB l.length 2 ++ e ++ r)).bind _ = _
          rw [List.append_assoc, leastR_app _ (by omega) (by omega), Rs.bind_ok, a]; rfl
      rw [if_neg h2, fold_enc_none] at h
      cases h
    · obtain rfl : k = 7 := by omega
      obtain ⟨hkl, hris⟩ := hmap rfl
      have h : (ks.zip l).foldl (fun o x => encO d (textO o x.1) x.2) (manyO 0x80 0xde (some l0) l.length) = some x := h
      have hz := zip_map ks (normL l) (by rw [normL_len]; exact hkl)
      have hfin : pDict (ks.zip (normL l)) = .mk 7 0 [] [] ks (normL l) := by unfold pDict; rw [hz.1, hz.2]
      unfold manyO at h
      by_cases h1 : l.length ≤ 15
      · rw [if_pos h1] at h
        cases hp : putO (some l0) [0x80 ||| UInt8.ofNat l.length] with
        | none => rw [hp, fold_text_none] at h; cases h
        | some y =>
          rw [hp] at h
          obtain ⟨e, rfl, a⟩ := dec_dict ks l none hkl hDE hris (fun _ _ h => by cases h) _ x h
          obtain rfl := putO_ok hp
          refine ⟨(0x80 ||| UInt8.ofNat l.length) :: e, by simp, fun r => ?_⟩
          show leadR (decV d) (0x80 ||| UInt8.ofNat l.length).toNat (e ++ r) = _
          rw [lead_many 0x80 _ h1 (.inr rfl), show (0x80 : UInt8).toNat = 128 from rfl, lead_dict _ (by omega), show (128 + l.length) % 16 = l.length by omega, a, Rs.bind_ok, hfin]; rfl
      rw [if_neg h1] at h
      by_cases h2 : l.length ≤ 65535
      · rw [if_pos h2] at h
        cases hp : putO (some l0) (0xde :: bigB l.length 2) with
        | none => rw [hp, fold_text_none] at h; cases h
        | some y =>
          rw [hp] at h
          obtain ⟨e, rfl, a⟩ := dec_dict ks l none hkl hDE hris (fun _ _ h => by cases h) _ x h
          obtain rfl := putO_ok hp
          refine ⟨(0xde :: bigB l.length 2) ++ e, by simp, fun r => ?_⟩
          show (leastR 2 16 (bigB l.length 2 ++ e ++ r)).bind _ = _
          rw [List.append_assoc, leastR_app _ (by omega) (by omega), Rs.bind_ok, a, Rs.bind_ok, hfin]; rfl
      rw [if_neg h2, fold_text_none] at h
      cases h
theorem putO_small {l m x : List UInt8} (h : putO (some l) m = some x) : x.length ≤ 65536 := (putO_len h).2
theorem fold_len {α : Type} {f : Option (List UInt8) → α → Option (List UInt8)} (hn : ∀ a, f none a = none) (hf : ∀ a l x, l.length ≤ 65536 → f (some l) a = some x → x.length ≤ 65536) : ∀ (l : List α) (o : Option (List UInt8)) (x : List UInt8), (∀ y, o = some y → y.length ≤ 65536) → l.foldl f o = some x → x.length ≤ 65536
  | [], o, x, ho, h => ho x h
  | a :: l, o, x, ho, h => by
    rw [List.foldl_cons] at h
    cases o with
    | none => rw [hn, foldl_none f hn] at h; cases h
    | some y => exact fold_len hn hf l _ x (fun z hz => hf a y z (ho y rfl) hz) h
theorem text_small {l m x : List UInt8} (h : textO (some l) m = some x) : x.length ≤ 65536 := by
  unfold textO at h
  repeat' split at h
  all_goals first | exact putO_small h | cases h
theorem many_small {a b : UInt8} {l x : List UInt8} {n : Nat} (h : manyO a b (some l) n = some x) : x.length ≤ 65536 := by
  unfold manyO at h
  repeat' split at h
  all_goals first | exact putO_small h | cases h
theorem enc_len : ∀ (d : Nat) (v : PV) (l0 x : List UInt8), l0.length ≤ 65536 → encO d (some l0) v = some x → x.length ≤ 65536
  | 0, v, l0, x, h0, h => by cases h; exact h0
  | d + 1, .mk k n b t ks l, l0, x, h0, h => by
    unfold encO at h
    repeat' split at h
    · exact putO_small h
    · exact putO_small h
    · exact putO_small h
    · exact putO_small h
    · unfold blobO at h
      repeat' split at h
      all_goals first | exact putO_small h | cases h
    · exact text_small h
    · exact fold_len (encO_none d) (fun a l x hl hh => enc_len d a l x hl hh) l _ x (fun y hy => many_small hy) h
    · refine fold_len (f := fun o x => encO d (textO o x.1) x.2) (fun a => by simp only [textO_none]; exact encO_none d a.2) (fun a l x hl hh => ?_) (ks.zip l) _ x (fun y hy => many_small hy) h
      cases ht : textO (some l) a.1 with
      | none => simp only [ht] at hh; rw [encO_none] at hh; cases hh
      | some y => simp only [ht] at hh; exact enc_len d a.2 y x (text_small ht) hh
theorem decF_enc {v : PV} {L : List UInt8} (hok : OkV v) (h : encF v = (L, 0)) : canF 16 v = true ∧ L ≠ [] ∧ L.length ≤ 65536 ∧ decV 16 L = .ok (normV v) [] ∧ decF L = (normV v, 0) := by
  unfold encF at h
  split at h
  · cases h
  · rename_i hc
    have hc : canF 16 v = true := by simpa using hc
    split at h
    · cases h
    · rename_i l ho
      cases h
      obtain ⟨e, he, a⟩ := dec_enc 16 v hc hok [] L ho
      simp only [List.nil_append] at he
      subst he
      have h1 := a []
      rw [List.append_nil] at h1
      have hne : L ≠ [] := by
        rintro rfl
        rw [decV_byte] at h1; cases h1
      have hlen : L.length ≤ 65536 := enc_len 16 v [] L (by decide) ho
      refine ⟨hc, hne, hlen, h1, ?_⟩
      unfold decF
      rw [if_neg (by omega), h1]
      rfl
end Go.Proofs.Ytakliplkabgmbaa
