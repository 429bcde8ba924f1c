/- Layer 20: tokens. -/
import Derived.Test.YtcanlgcifnjfaaaDoorPt6
set_option maxRecDepth 20000
namespace Go.Proofs.YtcanlgcifnjfaaaDoor
open Go.RowKit Go.Hd
attribute [local go_sem ↓] h_ldTK h_stTK h_alTK h_bdTK h_bsTK
attribute [local go_sem] r_alTK r_stTK r_ldTK r_bsTK

theorem eTK : Elem Tryd.prog 50 85 (.agg zTK) 258 272 := ⟨by kernel_rfl, by kernel_rfl, rfl, by decide⟩
theorem app_tok {base : Nat} {w : World} {v : Value} {L : List Tok} (t : Tok) (hown : w.ownsRow base 85 258 v L.length (L.map tokC).flatten) (hl : L.length ≤ 100000) (hb : base ≤ w.heap.size) :
    ∃ a' c' w', (Builtin.append_ #[50, 50] 50 #[v, .slice (some ⟨w.heap.size, 0, none⟩) 1 1]).run Tryd.prog (w.alloc (.cells (tokA t) 85)) = .ok (.slice a' (L.length + 1) c') w' ∧
      w'.ownsRow base 85 258 (.slice a' (L.length + 1) c') (L ++ [t]).length ((L ++ [t]).map tokC).flatten ∧ Below base w w' := by
  have hsrc : Src Tryd.prog 258 50 (.slice (some ⟨w.heap.size, 0, none⟩) 1 1) 1 (tokC t) (w.alloc (.cells (tokA t) 85)) :=
    Src.ofRow eTK.ht _ 1 1 _ (by decide) (by rw [tokC_len]) (row_alloc _ _ _ _) (tokC_one _)
  obtain ⟨v', w2, hrun, hown2, hg2⟩ := append_src (ty := 50) eTK (World.ownsRow.alloc hown (.cells (tokA t) 85)) hsrc (by unfold maxLen; omega) (by omega) (by simp; omega)
  obtain ⟨a', c', rfl, _⟩ := owns_rowN hown2 (by decide)
  refine ⟨a', c', w2, hrun, ?_, ?_⟩
  · rw [List.length_append, List.map_append, List.flatten_append]
    simpa using hown2
  · exact ((Below.refl base w).alloc hb _).trans (Below.ofGrown hg2 (World.ownsRow.alloc hown _) (by simp; omega))
theorem r_bdC {c : UInt8} {w : World} : (bdOp 85 #[(0, .int .i64 0), (1, .int .u8 (c.toNat : Int))]).run Tryd.prog w = .ok (.agg (tokA (.one c))) w := by
  refine run_build w 85 _ _ ?_
  rw [built_struct Tryd.underlying85 zeroTK (placesTK _ Tryd.underlying85)]
  rw [fill_cons (off := 0) (size := 1) (by rfl) (by rfl) (by show 0 + 1 ≤ zTK.size; rw [zTK_size]; decide), fill_cons (off := 1) (size := 1) (by rfl) (by rfl) (by simp [Value.cells]; have := zTK_size; omega), fill_nil]
  have := bits0 (bitsT (.one c)) (fun _ => rfl)
  unfold tokA tokC
  rw [this]
  rfl
theorem r_bdD {w : World} : (bdOp 85 #[(0, .int .i64 4)]).run Tryd.prog w = .ok (.agg (tokA .deep)) w := by
  rw [r_bdK, ← bits0 (bitsT .deep) (fun _ => rfl)]; rfl
theorem r_bdA {w : World} : (bdOp 85 #[(0, .int .i64 2)]).run Tryd.prog w = .ok (.agg (tokA .any1)) w := by
  rw [r_bdK, ← bits0 (bitsT .any1) (fun _ => rfl)]; rfl
theorem r_bdS {w : World} : (bdOp 85 #[(0, .int .i64 1)]).run Tryd.prog w = .ok (.agg (tokA .star)) w := by
  rw [r_bdK, ← bits0 (bitsT .star) (fun _ => rfl)]; rfl
def ToksP (w : World) (sh : Bool) (s : List UInt8) (e : Ending) (w' : World) : Prop :=
  (match toksF sh (s.length + 1) true s with
    | none => e = .returned (.tuple #[.slice none 0 0, .bool false])
    | some T => ∃ a c, e = .returned (.tuple #[.slice a T.length c, .bool true]) ∧ TokRow w' a T ∧ (0 < T.length → w.heap.size ≤ (hd a).block)) ∧ Below w.heap.size w w'
theorem tok_nil {sh sl : Bool} {n : Nat} : toksF sh (n + 1) sl [] = some [] := by simp [toksF]
theorem tok_deep {sl : Bool} {n : Nat} {s : List UInt8} (h1 : sl = true) (h2 : beginsB s [42, 42, 47] = true) : toksF true (n + 1) sl s = (toksF true n true (s.drop 3)).map (.deep :: ·) := by
  cases s with
  | nil => exact absurd h2 (by decide)
  | cons c r => rw [toksF, if_neg (by simp), if_pos ⟨rfl, h1, h2⟩]
theorem tok_other {sh sl : Bool} {n : Nat} {c : UInt8} {r : List UInt8} (h : ¬ (sh = true ∧ sl = true ∧ beginsB (c :: r) [42, 42, 47] = true)) : toksF sh (n + 1) sl (c :: r) =
    if c = 42 then (toksF sh n false r).map (.star :: ·)
    else if c = 63 then (toksF sh n false r).map (.any1 :: ·)
    else if c = 91 then match setF r with
      | none => none
      | some (f, k) => (toksF sh n false (r.drop k)).map (.set f :: ·)
    else (toksF sh n (c == 47) r).map (.one c :: ·) := by
  rw [toksF, if_neg (by simp), if_neg h]
  rfl
theorem setF_end {r : List UInt8} {f : Nat → Bool} {k : Nat} (h : setF r = some (f, k)) : 2 ≤ k ∧ k ≤ r.length ∧ r[k - 1]? = some 93 := by
  unfold setF at h
  split at h
  · cases h
  · split at h
    · cases h
    · rename_i h1 h2
      injection h with h
      injection h with _ h
      obtain ⟨o, ho⟩ : ∃ o : Nat, Lib.indexByte (r.drop (frF r + 1)) 93 = (o : Int) := ⟨(Lib.indexByte (r.drop (frF r + 1)) 93).toNat, by omega⟩
      rw [ho] at h
      have hs := (Lib.indexByte_some ho).1
      rw [List.getElem?_drop] at hs
      have hlt := (List.getElem?_eq_some_iff.1 hs).1
      have e : k - 1 = frF r + 1 + o := by simp at h; omega
      rw [e]
      refine ⟨by simp at h; omega, by simp at h; omega, hs⟩
/-- So far L was read; what follows from place j on. -/
def TokI (sh : Bool) (s : List UInt8) (L : List Tok) (j : Nat) : Prop :=
  j ≤ s.length ∧ L.length ≤ j ∧ ∃ n sl, s.length - j < n ∧ (sl = true ↔ j = 0 ∨ s[j - 1]? = some 47) ∧ (toksF sh n sl (s.drop j)).map (L ++ ·) = toksF sh (s.length + 1) true s
theorem TokI.start (sh : Bool) (s : List UInt8) : TokI sh s [] 0 := ⟨Nat.zero_le _, Nat.le_refl _, s.length + 1, true, by omega, by simp, by simp⟩
theorem app_map (L : List Tok) (t : Tok) (o : Option (List Tok)) : (o.map (t :: ·)).map (L ++ ·) = o.map ((L ++ [t]) ++ ·) := by
  cases o <;> simp
theorem TokI.next {sh : Bool} {s : List UInt8} {L : List Tok} {j : Nat} (h : TokI sh s L j) (hj : j < s.length) (hd : ¬ (sh = true ∧ (j = 0 ∨ s[j - 1]? = some 47) ∧ beginsB (s.drop j) [42, 42, 47] = true)) :
    (s[j] = 42 → TokI sh s (L ++ [.star]) (j + 1)) ∧ (s[j] = 63 → TokI sh s (L ++ [.any1]) (j + 1)) ∧
    (s[j] = 91 → (setF (s.drop (j + 1)) = none → toksF sh (s.length + 1) true s = none) ∧ (∀ f k, setF (s.drop (j + 1)) = some (f, k) → TokI sh s (L ++ [.set f]) (j + 1 + k))) ∧
    (s[j] ≠ 42 → s[j] ≠ 63 → s[j] ≠ 91 → TokI sh s (L ++ [.one s[j]]) (j + 1)) := by
  obtain ⟨h1, h2, n, sl, h3, h4, h5⟩ := h
  obtain ⟨n, rfl⟩ : ∃ m, n = m + 1 := ⟨n - 1, by omega⟩
  rw [List.drop_eq_getElem_cons hj, tok_other (by rw [h4, ← List.drop_eq_getElem_cons hj]; exact hd)] at h5
  have hprev : s[j + 1 - 1]? = some s[j] := by simp [hj]
  refine ⟨fun e => ?_, fun e => ?_, fun e => ⟨fun e2 => ?_, fun f k e2 => ?_⟩, fun e1 e2 e3 => ?_⟩
  · rw [if_pos e, app_map] at h5
    refine ⟨by omega, by simp; omega, n, false, by omega, ?_, h5⟩
    rw [hprev, e]; simp
  · rw [if_neg (by rw [e]; decide), if_pos e, app_map] at h5
    refine ⟨by omega, by simp; omega, n, false, by omega, ?_, h5⟩
    rw [hprev, e]; simp
  · rw [if_neg (by rw [e]; decide), if_neg (by rw [e]; decide), if_pos e, e2] at h5
    exact h5.symm
  · rw [if_neg (by rw [e]; decide), if_neg (by rw [e]; decide), if_pos e, e2] at h5
    simp only at h5
    rw [app_map, List.drop_drop] at h5
    obtain ⟨k1, k2, k3⟩ := setF_end e2
    rw [List.length_drop] at k2
    rw [List.getElem?_drop] at k3
    refine ⟨by omega, by simp; omega, n, false, by omega, ?_, h5⟩
    rw [show j + 1 + k - 1 = j + 1 + (k - 1) by omega, k3]; simp
  · rw [if_neg e1, if_neg e2, if_neg e3, app_map] at h5
    refine ⟨by omega, by simp; omega, n, s[j] == 47, by omega, ?_, h5⟩
    rw [hprev]; simp
theorem TokI.deep {s : List UInt8} {L : List Tok} {j : Nat} (h : TokI true s L j) (hj : j + 3 ≤ s.length) (h1 : j = 0 ∨ s[j - 1]? = some 47) (h2 : beginsB (s.drop j) [42, 42, 47] = true) (h47 : s[j + 2]? = some 47) : TokI true s (L ++ [.deep]) (j + 3) := by
  obtain ⟨g1, g2, n, sl, h3, h4, h5⟩ := h
  obtain ⟨n, rfl⟩ : ∃ m, n = m + 1 := ⟨n - 1, by omega⟩
  rw [tok_deep (h4.2 h1) h2, app_map, List.drop_drop] at h5
  refine ⟨hj, by simp; omega, n, true, by omega, ?_, h5⟩
  rw [show j + 3 - 1 = j + 2 by omega, h47]; simp
theorem TokI.done {sh : Bool} {s : List UInt8} {L : List Tok} (h : TokI sh s L s.length) : toksF sh (s.length + 1) true s = some L := by
  obtain ⟨g1, g2, n, sl, h3, h4, h5⟩ := h
  obtain ⟨n, rfl⟩ : ∃ m, n = m + 1 := ⟨n - 1, by omega⟩
  rw [List.drop_length, tok_nil] at h5
  rw [← h5]; simp
theorem begins_len {s t : List UInt8} (h : beginsB s t = true) : t.length ≤ s.length ∧ ∀ i, i < t.length → s[i]? = t[i]? := by
  obtain ⟨r, rfl⟩ := List.isPrefixOf_iff_prefix.1 h
  exact ⟨by simp, fun i hi => by rw [List.getElem?_append_left hi]⟩
end Go.Proofs.YtcanlgcifnjfaaaDoor
