/- Layer 20: what Match answers, by what tokens match. -/
import Derived.Test.YtcanlgcifnjfaaaDoorPt11
set_option maxRecDepth 20000
namespace Go.Proofs.YtcanlgcifnjfaaaDoor
open Go.RowKit Go.Hd
theorem WfT_cons {t : Tok} {T : List Tok} (h : WfT T) (h0 : T[0]? = some .deep → t = .deep ∨ t = .one 47) : WfT (t :: T) := by
  intro k hk
  cases k with
  | zero =>
    rcases h0 hk with rfl | rfl
    · exact .inl rfl
    · exact .inr rfl
  | succ k => exact h k hk
theorem toks_wf {sh : Bool} : ∀ (n : Nat) (sl : Bool) (s : List UInt8) (T : List Tok), toksF sh n sl s = some T → WfT T ∧ (T[0]? = some .deep → sl = true)
  | 0, _, _, _, h => by cases h
  | n + 1, sl, [], T, h => by
    rw [tok_nil] at h; injection h with h; subst h
    exact ⟨fun k hk => by simp at hk, fun h => by simp at h⟩
  | n + 1, sl, c :: r, T, h => by
    have M : ∀ (o : Option (List Tok)) (t : Tok) (b : Bool), (∀ T', o = some T' → WfT T' ∧ (T'[0]? = some .deep → b = true)) → (b = true → t = .deep ∨ t = .one 47) → o.map (t :: ·) = some T → WfT T ∧ T[0]? = some t := by
      intro o t b ho hb h
      cases o with
      | none => cases h
      | some T' =>
        simp at h; subst h
        obtain ⟨h1, h2⟩ := ho T' rfl
        exact ⟨WfT_cons h1 (fun h => hb (h2 h)), rfl⟩
    by_cases hd : sh = true ∧ sl = true ∧ beginsB (c :: r) [42, 42, 47] = true
    · obtain ⟨rfl, h1, h2⟩ := hd
      rw [tok_deep h1 h2] at h
      exact ⟨(M _ _ true (fun T' h' => toks_wf n _ _ T' h') (fun _ => .inl rfl) h).1, fun _ => h1⟩
    · rw [tok_other hd] at h
      split at h
      · obtain ⟨g1, g2⟩ := M _ _ false (fun T' h' => toks_wf n _ _ T' h') (fun h => by cases h) h
        exact ⟨g1, fun h => by rw [g2] at h; cases h⟩
      · split at h
        · obtain ⟨g1, g2⟩ := M _ _ false (fun T' h' => toks_wf n _ _ T' h') (fun h => by cases h) h
          exact ⟨g1, fun h => by rw [g2] at h; cases h⟩
        · split at h
          · split at h
            · cases h
            · obtain ⟨g1, g2⟩ := M _ _ false (fun T' h' => toks_wf n _ _ T' h') (fun h => by cases h) h
              exact ⟨g1, fun h => by rw [g2] at h; cases h⟩
          · obtain ⟨g1, g2⟩ := M _ _ (c == 47) (fun T' h' => toks_wf n _ _ T' h') (fun h => .inr (by rw [beq_iff_eq.1 h])) h
            exact ⟨g1, fun h => by rw [g2] at h; cases h⟩
/-- The answer by tokens. -/
theorem match_mt {p s rest : List UInt8} {k : Nat} {T : List Tok} (h : readF p = .ok (k, rest, T)) (hk : 2 ≤ k) : matchF p s = (mt (k == 3) T s, 0) := by
  have hT : toksF (k == 3) (rest.length + 1) true rest = some T := by
    unfold readF at h
    split at h
    · cases h
    · split at h
      · cases h
      · split at h
        · injection h with h
          injection h with h1 h2
          omega
        · split at h
          · cases h
          · rename_i T' hT
            injection h with h
            injection h with h1 h2
            injection h2 with h2 h3
            subst h1 h2 h3
            exact hT
  unfold matchF
  rw [h]
  simp only
  unfold matchK
  rw [if_neg (by omega), if_neg (by omega), walkF_m (toks_wf _ _ _ _ hT).1]
end Go.Proofs.YtcanlgcifnjfaaaDoor
