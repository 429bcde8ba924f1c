/- Layer 05: the document's bytes of a flat value. -/
import Derived.Test.YtakliplkabgmbaaV13
import Derived.Test.YtakliplkabgmbaaOwnS
set_option maxRecDepth 20000
namespace Go.Proofs.Ytakliplkabgmbaa
open Go.RowKit Go.Hd
attribute [local go_sem ↓] h_ldV h_stV h_alV
attribute [local go_sem] r_ldV r_stV r_alV

theorem byteCells_str (m : List UInt8) : byteCells (str m) = m.map b8 := by
  unfold byteCells str
  simp
/-- A text, appended. -/
theorem Own.appendT {t ty E tx : TypeId} {w : World} {base : Nat} {v : Value} {l : List UInt8} (h : Own E w base v l) (El : Elem Try.prog t E (.int .u8 0) 1 1) (hk : Try.prog.underlying tx = some .string) {m : List UInt8}
    (hl : l.length + m.length ≤ 140737488355328) (hb : base ≤ w.heap.size) :
    ∃ v' w', (Builtin.append_ #[t, tx] ty #[v, .string (str m)]).run Try.prog w = .ok v' w' ∧ Own E w' base v' (l ++ m) ∧ w.grownBy w' v.ownBlock ∧ (∀ k, v'.ownBlock = some k → v.ownBlock = some k ∨ w.heap.size ≤ k) ∧ Below base w w' := by
  have hs := Src.ofString (P := Try.prog) (w := w) hk (str m)
  rw [byteCells_str, str_size] at hs
  obtain ⟨v', w', h1, h2, h3, h4⟩ := append_srcK (ty := ty) El h hs (by unfold maxLen; omega) (by omega) hb
  refine ⟨v', w', h1, ?_, h3, h4, Below.ofGrown h3 h hb⟩
  show w'.ownsRow _ _ _ _ _ _
  rw [List.length_append, List.map_append]; exact h2
/-- What the document's bytes answers. -/
structure RbR (base : Nat) (w w' : World) (v u : Value) (r : Bool) (o : Option (List UInt8)) : Prop where
  own : ∃ l', Own 5 w' base u l' ∧ (r = true → o = some l' ∧ l'.length ≤ 65536)
  no : r = false → o = none
  gro : Gro w w' v u
/-- A value's lead, by the document. -/
def leadF (k n : Int) (b t : List UInt8) (l : List PV) : List UInt8 :=
  if k = 0 then [0xc0] else if k = 1 then [0xc2] else if k = 2 then [0xc3] else if k = 3 then intB n else if k = 4 then cntB b.length 0 (-1) 0xc4 0xc5 else if k = 5 then cntB t.length 0xa0 31 0xd9 0xda else
  if k = 6 then cntB l.length 0x90 15 0 0xdc else cntB l.length 0x80 15 0 0xde
def restF (k : Int) (b t : List UInt8) : List UInt8 := if k = 4 then b else if k = 5 then t else []
theorem cntB_len (n few : Nat) (most : Int) (one two : Nat) : (cntB n few most one two).length ≤ 3 := by
  unfold cntB
  repeat' split
  all_goals simp [bigB_len]
theorem leadF_len (k n : Int) (b t : List UInt8) (l : List PV) : (leadF k n b t l).length ≤ 9 := by
  have h1 := intB_len n
  have h2 := cntB_len b.length 0 (-1) 0xc4 0xc5
  have h3 := cntB_len t.length 0xa0 31 0xd9 0xda
  have h4 := cntB_len l.length 0x90 15 0 0xdc
  have h5 := cntB_len l.length 0x80 15 0 0xde
  unfold leadF
  repeat' split
  all_goals first | omega | simp
theorem cntB_ne {n few : Nat} {most : Int} {one two : Nat} (h : cntB n few most one two ≠ []) : n < 65536 ∨ (n : Int) ≤ most := by
  unfold cntB at h
  split at h
  · right; assumption
  · split at h
    · left; rename_i h2; omega
    · split at h
      · left; assumption
      · exact absurd rfl h
def startO (l0 lead : List UInt8) : Option (List UInt8) := if lead = [] then none else putO (some l0) lead
theorem putO_some (l m : List UInt8) : putO (some l) m = if 65536 < l.length + m.length then none else some (l ++ m) := rfl
theorem putO_nil (o : Option (List UInt8)) (h : ∀ l, o = some l → l.length ≤ 65536) : putO o [] = o := by
  cases o with
  | none => rfl
  | some l => rw [putO_some, if_neg (by have := h l rfl; simp; omega), List.append_nil]
theorem or_ofNat (a : UInt8) (m : Nat) (n : Nat) (h : ∀ k : Fin (m + 1), (a ||| UInt8.ofNat k.val) = UInt8.ofNat (a.toNat + k.val)) (hn : n ≤ m) : (a ||| UInt8.ofNat n) = UInt8.ofNat (a.toNat + n) := h ⟨n, by omega⟩
theorem cntB_a {n few : Nat} {most : Int} {one two : Nat} (h : (n : Int) ≤ most) : cntB n few most one two = [UInt8.ofNat (few + n)] := by unfold cntB; rw [if_pos h]
theorem cntB_b {n few : Nat} {most : Int} {one two : Nat} (h : ¬ (n : Int) ≤ most) (h1 : n < 256) (h2 : one ≠ 0) : cntB n few most one two = [UInt8.ofNat one, UInt8.ofNat n] := by unfold cntB; rw [if_neg h, if_pos ⟨h1, h2⟩]
theorem cntB_c {n few : Nat} {most : Int} {one two : Nat} (h : ¬ (n : Int) ≤ most) (h1 : ¬ (n < 256 ∧ one ≠ 0)) (h2 : n < 65536) : cntB n few most one two = UInt8.ofNat two :: bigB n 2 := by unfold cntB; rw [if_neg h, if_neg h1, if_pos h2]
theorem cntB_d {n few : Nat} {most : Int} {one two : Nat} (h : ¬ (n : Int) ≤ most) (h1 : ¬ (n < 256 ∧ one ≠ 0)) (h2 : ¬ n < 65536) : cntB n few most one two = [] := by unfold cntB; rw [if_neg h, if_neg h1, if_neg h2]
theorem startO_cons (l0 : List UInt8) (c : UInt8) (m : List UInt8) : startO l0 (c :: m) = putO (some l0) (c :: m) := by unfold startO; rw [if_neg (by simp)]
theorem startO_nil (l0 : List UInt8) : startO l0 [] = none := by unfold startO; rw [if_pos rfl]
theorem enc_blob (l0 b : List UInt8) : blobO (some l0) b = putO (startO l0 (cntB b.length 0 (-1) 0xc4 0xc5)) b := by
  have h0 : ¬ (b.length : Int) ≤ -1 := by omega
  unfold blobO
  by_cases h1 : b.length ≤ 255
  · rw [if_pos h1, cntB_b h0 (by omega) (by decide), startO_cons, putO_two, bigB_one]; rfl
  · have h3 : ¬ (b.length < 256 ∧ (0xc4 : Nat) ≠ 0) := by omega
    rw [if_neg h1]
    by_cases h2 : b.length ≤ 65535
    · rw [if_pos h2, cntB_c h0 h3 (by omega), startO_cons, putO_two]; rfl
    · rw [if_neg h2, cntB_d h0 h3 (by omega), startO_nil]; rfl
theorem enc_text (l0 t : List UInt8) : textO (some l0) t = putO (startO l0 (cntB t.length 0xa0 31 0xd9 0xda)) t := by
  unfold textO
  by_cases h0 : t.length ≤ 31
  · have e := or_ofNat 0xa0 31 t.length (by decide) h0
    rw [if_pos h0, cntB_a (by omega), startO_cons, putO_two, e]; rfl
  have h0' : ¬ (t.length : Int) ≤ 31 := by omega
  rw [if_neg h0]
  by_cases h1 : t.length ≤ 255
  · rw [if_pos h1, cntB_b h0' (by omega) (by decide), startO_cons, putO_two, bigB_one]; rfl
  · have h3 : ¬ (t.length < 256 ∧ (0xd9 : Nat) ≠ 0) := by omega
    rw [if_neg h1]
    by_cases h2 : t.length ≤ 65535
    · rw [if_pos h2, cntB_c h0' h3 (by omega), startO_cons, putO_two]; rfl
    · rw [if_neg h2, cntB_d h0' h3 (by omega), startO_nil]; rfl
theorem enc_list (l0 : List UInt8) (n : Nat) : manyO 0x90 0xdc (some l0) n = startO l0 (cntB n 0x90 15 0 0xdc) := by
  unfold manyO
  by_cases h0 : n ≤ 15
  · have e := or_ofNat 0x90 15 n (by decide) h0
    rw [if_pos h0, cntB_a (by omega), startO_cons, e]; rfl
  · have h0' : ¬ (n : Int) ≤ 15 := by omega
    have h3 : ¬ (n < 256 ∧ (0 : Nat) ≠ 0) := by omega
    rw [if_neg h0]
    by_cases h2 : n ≤ 65535
    · rw [if_pos h2, cntB_c h0' h3 (by omega), startO_cons]; rfl
    · rw [if_neg h2, cntB_d h0' h3 (by omega), startO_nil]
theorem enc_map (l0 : List UInt8) (n : Nat) : manyO 0x80 0xde (some l0) n = startO l0 (cntB n 0x80 15 0 0xde) := by
  unfold manyO
  by_cases h0 : n ≤ 15
  · have e := or_ofNat 0x80 15 n (by decide) h0
    rw [if_pos h0, cntB_a (by omega), startO_cons, e]; rfl
  · have h0' : ¬ (n : Int) ≤ 15 := by omega
    have h3 : ¬ (n < 256 ∧ (0 : Nat) ≠ 0) := by omega
    rw [if_neg h0]
    by_cases h2 : n ≤ 65535
    · rw [if_pos h2, cntB_c h0' h3 (by omega), startO_cons]; rfl
    · rw [if_neg h2, cntB_d h0' h3 (by omega), startO_nil]
theorem intB_ne (n : Int) : intB n ≠ [] := by
  intro h
  have := intB_len n
  rw [h] at this
  simp at this
/-- A flat value: its lead, then its bytes or its text. -/
theorem enc_flat {d : Nat} {l0 : List UInt8} {k n : Int} {b t : List UInt8} {ks : List (List UInt8)} {l : List PV} (_h0 : l0.length ≤ 65536) (hk0 : 0 ≤ k) (hk : k < 6) :
    encO (d + 1) (some l0) (.mk k n b t ks l) = putO (startO l0 (leadF k n b t l)) (restF k b t) := by
  have hst : ∀ (m : List UInt8), ∀ x, startO l0 m = some x → x.length ≤ 65536 := by
    intro m x hx
    unfold startO at hx
    split at hx
    · cases hx
    · rw [putO_some] at hx
      split at hx
      · cases hx
      · cases hx; simp; omega
  rcases (by omega : k = 0 ∨ k = 1 ∨ k = 2 ∨ k = 3 ∨ k = 4 ∨ k = 5) with rfl | rfl | rfl | rfl | rfl | rfl
  · show putO (some l0) [0xc0] = putO (startO l0 [0xc0]) []
    rw [putO_nil _ (hst _)]; rfl
  · show putO (some l0) [0xc2] = putO (startO l0 [0xc2]) []
    rw [putO_nil _ (hst _)]; rfl
  · show putO (some l0) [0xc3] = putO (startO l0 [0xc3]) []
    rw [putO_nil _ (hst _)]; rfl
  · show putO (some l0) (intB n) = putO (startO l0 (intB n)) []
    rw [putO_nil _ (hst _)]; unfold startO; rw [if_neg (intB_ne n)]
  · exact enc_blob l0 b
  · exact enc_text l0 t
/-- The document's lead, appended. -/
theorem lead_step {base : Nat} {w w1 : World} {v0 : Value} {l0 lead : List UInt8} {a : Option Addr} {c m : Nat} (h : Own 5 w base v0 l0) (hb : base ≤ w.heap.size) (hb1 : Below w.heap.size w w1) (hr : Row w1 a (lead.map b8)) (hm : m = lead.length) (h0 : l0.length ≤ 65536) (h9 : lead.length ≤ 9) :
    ∃ a2 c2 w2, (Builtin.append_ #[35, 35] 35 #[v0, .slice a m c]).run Try.prog w1 = .ok (.slice a2 (l0 ++ lead).length c2) w2 ∧ Own 5 w2 base (.slice a2 (l0 ++ lead).length c2) (l0 ++ lead) ∧ Gro w1 w2 v0 (.slice a2 (l0 ++ lead).length c2) := by
  subst hm
  have h1 := h.below hb1
  obtain ⟨v', w2, hrun, h2, h3, h4, h5⟩ := Own.append (ty := 35) h1 eB hr rfl (by omega) (Nat.le_trans hb hb1.size)
  obtain ⟨a2, c2, rfl, _⟩ := Own.at (E := 5) h2
  exact ⟨a2, c2, w2, hrun, h2, h3, h4⟩
end Go.Proofs.Ytakliplkabgmbaa
