/- Plain laws of layer 9 (wrap): what was unwrapped, wrapped. -/
import Derived.Test.YtpkgcnklpnficaaPl9c
namespace Go.Hd
open Go

theorem text_wrapB {l : List UInt8} {k : UInt8} (h5 : 5 ≤ l.length) (hk : (l.getD 0 0) = k) : wrapB k (sizeL l) (l.drop 5) = l := by
  have hp : putL (sizeL l) 4 = (l.drop 1).take 4 := by
    have := putL_getL ((l.drop 1).take 4)
    rwa [show ((l.drop 1).take 4).length = 4 by simp; omega] at this
  unfold wrapB
  rw [hp]
  match l, h5, hk with
  | a :: l, h5, hk =>
    have : a = k := by simpa using hk
    subst this
    simp
theorem lookF_zero {l : List UInt8} (h : (lookF l).2.2 = 0) : 5 ≤ l.length ∧ (lookF l).1 = (l.getD 0 0).toNat ∧ (lookF l).1 ≤ 1 ∧ (lookF l).2.1 = sizeL l ∧ sizeL l ≤ 16379 := by
  by_cases h5 : l.length < 5
  · rw [lookF_short h5] at h; cases h
  · by_cases k : 1 < (l.getD 0 0).toNat ∨ 16379 < sizeL l
    · rw [lookF_form h5 k] at h; cases h
    · have k1 : ¬ 1 < (l.getD 0 0).toNat := fun e => k (.inl e)
      have k2 : ¬ 16379 < sizeL l := fun e => k (.inr e)
      rw [lookF_ok h5 k1 k2]
      exact ⟨by omega, rfl, by omega, rfl, by omega⟩
theorem loosF_bad {k : List UInt8} {n : Nat} (h : (loosF k n).2 ≠ 0) : (loosF k n).1 = [] := by
  unfold loosF at *
  split
  · rfl
  · split
    · rfl
    · split
      · rfl
      · rename_i h1 h2 h3
        rw [if_neg h1, if_neg h2, if_neg h3] at h
        exact absurd rfl h
theorem unwrapF_bad {l : List UInt8} (h : (unwrapF l).2 ≠ 0) : (unwrapF l).1 = [] := by
  unfold unwrapF at *
  split
  · rfl
  · rename_i h1
    rw [if_neg h1] at h
    split
    · rename_i h2
      rw [if_pos h2] at h
      exact loosF_bad h
    · rename_i h2
      rw [if_neg h2] at h
      split
      · rfl
      · rename_i h3
        rw [if_neg h3] at h
        split
        · rfl
        · rename_i h4
          rw [if_neg h4] at h
          exact absurd rfl h
theorem unwrapF_good {l : List UInt8} (h : (unwrapF l).2 = 0) : (unwrapF l).1.length ≤ 16379 ∧ (l = wrapF (unwrapF l).1 false ∨ l = wrapF (unwrapF l).1 true) := by
  by_cases f0 : (lookF l).2.2 = 0
  · obtain ⟨h5, hk, hk1, hn, hn1⟩ := lookF_zero f0
    have e1 : unwrapF l = if (lookF l).1 = 1 then loosF (l.drop 5) (lookF l).2.1 else if l.length - 5 < (lookF l).2.1 then ([], 3) else if (lookF l).2.1 < l.length - 5 then ([], 6) else (l.drop 5, 0) := by
      unfold unwrapF; rw [if_neg (fun e => e f0)]
    by_cases k1 : (lookF l).1 = 1
    · rw [if_pos k1] at e1
      rw [e1] at h ⊢
      unfold loosF at h ⊢
      by_cases h1 : (loosenF (l.drop 5) (lookF l).2.1).2 = 5
      · rw [if_pos h1] at h; cases h
      · rw [if_neg h1] at h ⊢
        by_cases h2 : (loosenF (l.drop 5) (lookF l).2.1).2 ≠ 0
        · rw [if_pos h2] at h; exact absurd h h2
        · rw [if_neg h2] at h ⊢
          by_cases h3 : (loosenF (l.drop 5) (lookF l).2.1).1.length ≠ (lookF l).2.1 ∨ squeezeF (loosenF (l.drop 5) (lookF l).2.1).1 ≠ l.drop 5 ∨ (loosenF (l.drop 5) (lookF l).2.1).1.length ≤ (l.drop 5).length
          · rw [if_pos h3] at h; cases h
          · rw [if_neg h3]
            generalize (loosenF (l.drop 5) (lookF l).2.1).1 = b at *
            have hb : b.length = (lookF l).2.1 := Decidable.byContradiction fun e => h3 (.inl e)
            have hs : squeezeF b = l.drop 5 := Decidable.byContradiction fun e => h3 (.inr (.inl e))
            have hlt : (l.drop 5).length < b.length := Nat.lt_of_not_le fun e => h3 (.inr (.inr e))
            exact ⟨by show b.length ≤ _; omega, .inl ((wrap_again h5 (by omega) hn hb).2 ⟨hs, hlt⟩).symm⟩
    · have k0 : l.getD 0 0 = 0 := by
        apply UInt8.toNat_inj.1
        show _ = 0
        omega
      rw [if_neg k1] at e1
      by_cases h1 : l.length - 5 < (lookF l).2.1
      · rw [e1, if_pos h1] at h; cases h
      · rw [if_neg h1] at e1
        by_cases h2 : (lookF l).2.1 < l.length - 5
        · rw [e1, if_pos h2] at h; cases h
        · rw [if_neg h2] at e1
          rw [e1]
          have hz : (l.drop 5).length = sizeL l := by simp; omega
          refine ⟨by show (l.drop 5).length ≤ _; omega, .inr ?_⟩
          show l = wrapF (l.drop 5) true
          rw [wrapF_st, hz, text_wrapB h5 k0]
  · unfold unwrapF at h
    rw [if_pos f0] at h
    exact absurd h f0
end Go.Hd
