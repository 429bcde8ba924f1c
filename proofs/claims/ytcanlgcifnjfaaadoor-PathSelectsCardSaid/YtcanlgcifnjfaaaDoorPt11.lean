/- Layer 20: Match. -/
import Derived.Test.YtcanlgcifnjfaaaDoorPt10
set_option maxRecDepth 20000
namespace Go.Hd
def matchF (p s : List UInt8) : Bool × Int := match readF p with
  | .error c => (false, c)
  | .ok (k, rest, T) => (matchK k rest T s, 0)
end Go.Hd
namespace Go.Proofs.YtcanlgcifnjfaaaDoor
open Go.RowKit Go.Hd
theorem toksF_len {sh : Bool} : ∀ (n : Nat) (sl : Bool) (s : List UInt8) (T : List Tok), toksF sh n sl s = some T → T.length ≤ s.length
  | 0, _, _, _, h => by cases h
  | n + 1, sl, [], T, h => by rw [tok_nil] at h; injection h with h; subst h; simp
  | n + 1, sl, c :: r, T, h => by
    have M : ∀ (o : Option (List Tok)) (t : Tok) (m : Nat), (∀ T', o = some T' → T'.length ≤ m) → o.map (t :: ·) = some T → T.length ≤ m + 1 := by
      intro o t m ho h
      cases o with
      | none => cases h
      | some T' => simp at h; subst h; have := ho T' rfl; simp; omega
    by_cases hd : sh = true ∧ sl = true ∧ beginsB (c :: r) [42, 42, 47] = true
    · obtain ⟨rfl, h1, h2⟩ := hd
      rw [tok_deep h1 h2] at h
      have := M _ _ _ (fun T' h' => toksF_len n _ _ T' h') h
      have := (begins_len h2).1
      simp at *; omega
    · rw [tok_other hd] at h
      split at h
      · have := M _ _ _ (fun T' h' => toksF_len n _ _ T' h') h; simpa using this
      · split at h
        · have := M _ _ _ (fun T' h' => toksF_len n _ _ T' h') h; simpa using this
        · split at h
          · split at h
            · cases h
            · rename_i f k hk
              have := M _ _ _ (fun T' h' => toksF_len n _ _ T' h') h
              simp at *; omega
          · have := M _ _ _ (fun T' h' => toksF_len n _ _ T' h') h; simpa using this
theorem readF_ok {p : List UInt8} {k : Nat} {rest : List UInt8} {T : List Tok} (h : readF p = .ok (k, rest, T)) : k ≤ 3 ∧ rest.length ≤ 100 ∧ T.length ≤ 100 := by
  have hs := styF_le p
  unfold readF at h
  split at h
  · cases h
  · split at h
    · cases h
    · split at h
      · injection h with h
        injection h with h1 h2
        injection h2 with h2 h3
        subst h1 h2 h3
        exact ⟨hs.1, by omega, by simp⟩
      · split at h
        · cases h
        · rename_i T' hT
          injection h with h
          injection h with h1 h2
          injection h2 with h2 h3
          subst h1 h2 h3
          have := toksF_len _ _ _ _ hT
          exact ⟨hs.1, by omega, by omega⟩
attribute [local go_sem ↓] h_stPT
attribute [local go_sem] r_stPT
set_option maxHeartbeats 1000000 in
theorem Match_any (p s : List UInt8) (w : World) (hp : p.length ≤ 100000) (hs : s.length ≤ 1000000) :
    Calls Tryd.prog 26 #[.string (str p), .string (str s)] w fun e w' => e = .returned (.tuple #[.bool (matchF p s).1, .int .i64 (matchF p s).2]) ∧ Below w.heap.size w w' := by
  have hrd := read_any p w hp
  have o1 : ∀ (a b : ByteArray) (x : Option Addr) (n c : Nat), OneC #[.string a, .string b, .slice x n c] := by intros; unfold OneC; simp [Value.oneCell']
  cases hR : readF p with
  | error c =>
    have hM : Hid (matchF p s = (false, c)) := by show _ = _; unfold matchF; rw [hR]
    have hc : c ≠ 0 := by
      rintro rfl
      unfold readF at hR
      split at hR
      · injection hR with hR; exact absurd hR (by decide)
      · split at hR
        · injection hR with hR; exact absurd hR (by decide)
        · split at hR
          · cases hR
          · split at hR
            · injection hR with hR; exact absurd hR (by decide)
            · cases hR
    have c1 : (c == 0) = false := by simpa using hc
    have o2 := o1 { data := #[] } { data := #[] } none 0 0
    go_enter Tryd.func26, Tryd.ntmps26
    go_wp2_with fail
    refine hrd.mono ?_
    rintro e w1 he
    unfold ReadP at he
    rw [hR] at he
    obtain ⟨rfl, hb⟩ := he
    have hbF : Hid (∀ cs, Below w.heap.size w (w1.alloc (.cells cs 52))) := fun cs => hb.alloc hb.size _
    clear hR hrd
    go_wp2
    go_ret2
    exact ⟨by rw [hM.out] <;> rfl, hbF.out _⟩
  | ok krT =>
    obtain ⟨k, rest, T⟩ := krT
    have hM : Hid (matchF p s = (matchK k rest T s, 0)) := by show _ = _; unfold matchF; rw [hR]
    obtain ⟨hk, hrl, hTl⟩ := readF_ok hR
    go_enter Tryd.func26, Tryd.ntmps26
    go_wp2_with fail
    refine hrd.mono ?_
    rintro e w1 he
    unfold ReadP at he
    rw [hR] at he
    obtain ⟨⟨a, c, rfl, hrow⟩, hb⟩ := he
    have o2 := o1 (styS k) (str rest) a T.length c
    have hbF := hb.alloc hb.size (.cells #[.string (styS k), .string (str rest), .slice a T.length c] 52)
    have hrow2 := hrow.below ((Below.refl _ _).alloc (Nat.le_refl _) (.cells #[.string (styS k), .string (str rest), .slice a T.length c] 52))
    have hmt := match_any (c := c) (s := s) (rest := rest) hk rfl hrow2 (by omega) hs (by omega)
    clear hR hrd hrow
    go_wp2_with fail
    refine hmt.mono ?_
    rintro e w2 ⟨rfl, hb2⟩
    go_wp2
    go_ret2
    exact ⟨by rw [hM.out] <;> rfl, hbF.trans (hb2.mono hbF.size)⟩
end Go.Proofs.YtcanlgcifnjfaaaDoor
