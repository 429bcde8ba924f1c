/- Plain laws of layer 8 (lz): blocks, squeezed and loosened. -/
import Derived.Test.YtpkgcnklpnficaaPl1
namespace Go.Hd
open Go

/-- What follows a token's four bits, of a length less fifteen. -/
def extL (n : Nat) : List UInt8 := List.replicate (n / 255) 255 ++ [UInt8.ofNat (n % 255)]
def moreL (n : Nat) : List UInt8 := if n < 15 then [] else extL (n - 15)
theorem extL_step (n : Nat) (h : 255 ≤ n) : extL n = 255 :: extL (n - 255) := by
  unfold extL
  obtain ⟨k, rfl⟩ := Nat.exists_eq_add_of_le h
  rw [show (255 + k) / 255 = k / 255 + 1 by omega, show 255 + k - 255 = k by omega, show (255 + k) % 255 = k % 255 by omega, List.replicate_succ]
  rfl
theorem extL_small (n : Nat) (h : n < 255) : extL n = [UInt8.ofNat n] := by
  unfold extL
  rw [show n / 255 = 0 by omega, show n % 255 = n by omega]
  rfl
theorem extL_length (n : Nat) : (extL n).length = n / 255 + 1 := by simp [extL]
theorem moreL_length (n : Nat) : (moreL n).length = if n < 15 then 0 else (n - 15) / 255 + 1 := by
  unfold moreL
  split
  · rfl
  · exact extL_length _
def tok (a m : Nat) : UInt8 := UInt8.ofNat (min a 15 * 16 + min m 15)
theorem tok_nat (a m : Nat) : (tok a m).toNat = min a 15 * 16 + min m 15 := by
  unfold tok
  rw [UInt8.toNat_ofNat']
  omega
/-- A sequence's bytes: literals, and n bytes from d back (none: it is the last). -/
def seqL (l : List UInt8) (d n : Nat) : List UInt8 := tok l.length (n - 4) :: (moreL l.length ++ (l ++ if n = 0 then [] else putL d 2 ++ moreL (n - 4)))
/-- How many of k bytes from c on are those from i on. -/
def comm (b : List UInt8) (c i : Nat) : Nat → Nat
  | 0 => 0
  | k + 1 => if b[c]? = b[i]? then comm b (c + 1) (i + 1) k + 1 else 0
def lzHash (l : List UInt8) : Nat := getL (l.take 4) * 2654435761 % 4294967296 / 1048576
theorem lzHash_lt (l : List UInt8) : lzHash l < 4096 := by unfold lzHash; omega
/-- The bytes that are still to come. -/
def sqGo (b : List UInt8) : Nat → List Nat → Nat → Nat → List UInt8
  | 0, _, told, _ => seqL (b.drop told) 0 0
  | f + 1, T, told, i =>
    if b.length < i + 12 then seqL (b.drop told) 0 0
    else if T.getD (lzHash (b.drop i)) 0 = 0 ∨ 65535 < i + 1 - T.getD (lzHash (b.drop i)) 0 ∨ (b.drop (T.getD (lzHash (b.drop i)) 0 - 1)).take 4 ≠ (b.drop i).take 4 then
      sqGo b f (T.set (lzHash (b.drop i)) (i + 1)) told (i + 1)
    else
      seqL ((b.drop told).take (i - told)) (i + 1 - T.getD (lzHash (b.drop i)) 0) (comm b (T.getD (lzHash (b.drop i)) 0 - 1) i (b.length - 5 - i)) ++
        sqGo b f (T.set (lzHash (b.drop i)) (i + 1)) (i + comm b (T.getD (lzHash (b.drop i)) 0 - 1) i (b.length - 5 - i)) (i + comm b (T.getD (lzHash (b.drop i)) 0 - 1) i (b.length - 5 - i))
def squeezeF (b : List UInt8) : List UInt8 := sqGo b (b.length + 1) (List.replicate 4096 0) 0 0

theorem comm_le (b : List UInt8) : ∀ k c i, comm b c i k ≤ k
  | 0, _, _ => Nat.le_refl _
  | k + 1, c, i => by
    unfold comm
    split
    · have := comm_le b k (c + 1) (i + 1); omega
    · omega
theorem comm_same (b : List UInt8) : ∀ k c i t, t < comm b c i k → b[c + t]? = b[i + t]?
  | 0, _, _, t, h => by simp [comm] at h
  | k + 1, c, i, t, h => by
    unfold comm at h
    split at h
    · rename_i h0
      cases t with
      | zero => simpa using h0
      | succ t =>
        have := comm_same b k (c + 1) (i + 1) t (by omega)
        rw [show c + 1 + t = c + (t + 1) by omega, show i + 1 + t = i + (t + 1) by omega] at this
        exact this
    · omega
/-- So many rounds done. -/
theorem comm_add (b : List UInt8) : ∀ m k c i, (∀ t, t < m → b[c + t]? = b[i + t]?) → comm b c i (m + k) = m + comm b (c + m) (i + m) k
  | 0, k, c, i, _ => by simp
  | m + 1, k, c, i, h => by
    rw [show m + 1 + k = (m + k) + 1 by omega, comm, if_pos (by simpa using h 0 (by omega)), comm_add b m k (c + 1) (i + 1) (fun t ht => by
      have := h (t + 1) (by omega)
      rw [show c + (t + 1) = c + 1 + t by omega, show i + (t + 1) = i + 1 + t by omega] at this
      exact this)]
    rw [show c + 1 + m = c + (m + 1) by omega, show i + 1 + m = i + (m + 1) by omega]
    omega
theorem four_same {b : List UInt8} {c i : Nat} (h : (b.drop c).take 4 = (b.drop i).take 4) (_ : i + 4 ≤ b.length) (_ : c + 4 ≤ b.length) : ∀ t, t < 4 → b[c + t]? = b[i + t]? := by
  intro t ht
  have := congrArg (fun l : List UInt8 => l[t]?) h
  simpa [List.getElem?_take, ht] using this
theorem comm_four {b : List UInt8} {c i k : Nat} (h : (b.drop c).take 4 = (b.drop i).take 4) (hi : i + 4 ≤ b.length) (hc : c + 4 ≤ b.length) (hk : 4 ≤ k) : 4 ≤ comm b c i k := by
  obtain ⟨j, rfl⟩ := Nat.exists_eq_add_of_le hk
  rw [comm_add b 4 j c i (four_same h hi hc)]
  omega
/-- One round. -/
theorem comm_yes {b : List UInt8} {c i k : Nat} (h : b[c]? = b[i]?) : comm b c i (k + 1) = comm b (c + 1) (i + 1) k + 1 := by rw [comm, if_pos h]
theorem comm_no {b : List UInt8} {c i k : Nat} (h : b[c]? ≠ b[i]?) : comm b c i k = 0 := by
  cases k with
  | zero => rfl
  | succ k => rw [comm, if_neg h]

/-- What a block's bytes are, from a place of the text on. -/
inductive Enc (b : List UInt8) : Nat → List UInt8 → Prop
  | last (told : Nat) : told ≤ b.length → (told = 0 ∨ told + 5 ≤ b.length) → Enc b told (seqL (b.drop told) 0 0)
  | more (told i c m : Nat) (L : List UInt8) : told ≤ i → i + 12 ≤ b.length → c < i → i - c ≤ 65535 → 4 ≤ m → i + m + 5 ≤ b.length → (∀ t, t < m → b[c + t]? = b[i + t]?) → Enc b (i + m) L →
      Enc b told (seqL ((b.drop told).take (i - told)) (i - c) m ++ L)
theorem sq_enc (b : List UInt8) : ∀ f T told i, (∀ j, T.getD j 0 ≤ i) → told ≤ i → i ≤ b.length → (told = 0 ∨ told + 5 ≤ b.length) → Enc b told (sqGo b f T told i)
  | 0, T, told, i, _, h1, h2, h3 => .last told (by omega) h3
  | f + 1, T, told, i, hT, h1, h2, h3 => by
    unfold sqGo
    split
    · exact .last told (by omega) h3
    · rename_i hn
      have hT' : ∀ k, i + 1 ≤ k → ∀ j, (T.set (lzHash (b.drop i)) (i + 1)).getD j 0 ≤ k := by
        intro k hk j
        rw [List.getD_eq_getElem?_getD, List.getElem?_set]
        have := hT j
        rw [List.getD_eq_getElem?_getD] at this
        split
        · split <;> simp <;> omega
        · omega
      have h4 := hT (lzHash (b.drop i))
      split
      · exact sq_enc b f _ told (i + 1) (hT' _ (Nat.le_refl _)) (by omega) (by omega) h3
      · rename_i hc
        generalize T.getD (lzHash (b.drop i)) 0 = c1 at *
        have a1 : c1 ≠ 0 := fun h => hc (.inl h)
        have a2 : ¬ 65535 < i + 1 - c1 := fun h => hc (.inr (.inl h))
        have a3 : (b.drop (c1 - 1)).take 4 = (b.drop i).take 4 := Decidable.byContradiction fun h => hc (.inr (.inr h))
        have m4 := comm_four (k := b.length - 5 - i) a3 (by omega) (by omega) (by omega)
        have ml := comm_le b (b.length - 5 - i) (c1 - 1) i
        have ms := comm_same b (b.length - 5 - i) (c1 - 1) i
        generalize comm b (c1 - 1) i (b.length - 5 - i) = m at *
        rw [show i + 1 - c1 = i - (c1 - 1) by omega]
        exact .more told i (c1 - 1) m _ h1 (by omega) (by omega) (by omega) m4 (by omega) ms (sq_enc b f _ (i + m) (i + m) (hT' _ (by omega)) (Nat.le_refl _) (by omega) (.inr (by omega)))
theorem squeeze_enc (b : List UInt8) : Enc b 0 (squeezeF b) :=
  sq_enc b _ _ 0 0 (fun j => by rw [List.getD_eq_getElem?_getD, List.getElem?_replicate]; split <;> simp) (Nat.le_refl _) (Nat.zero_le _) (.inl rfl)

theorem seqL_length (l : List UInt8) (d n : Nat) : (seqL l d n).length = 1 + (moreL l.length).length + l.length + if n = 0 then 0 else 2 + (moreL (n - 4)).length := by
  unfold seqL
  split <;> simp [List.length_append, putL_length] <;> omega
theorem enc_bound {b : List UInt8} {told : Nat} {L : List UInt8} (h : Enc b told L) : L.length ≤ (b.length - told) + (b.length - told) / 255 + 2 := by
  induction h with
  | last told h1 h2 =>
    rw [seqL_length, moreL_length]
    simp only [List.length_drop, if_true]
    split <;> omega
  | more told i c m L h1 h2 h3 h4 h5 h6 h7 h8 ih =>
    have e : ((b.drop told).take (i - told)).length = i - told := by rw [List.length_take, List.length_drop]; omega
    rw [List.length_append, seqL_length, if_neg (show ¬ m = 0 by omega), e]
    have a1 : (moreL (i - told)).length ≤ (i - told) / 255 + (if i - told < 15 then 0 else 1) := by
      rw [moreL_length]; split <;> omega
    have a2 : (moreL (m - 4)).length + 3 + 1 ≤ m := by
      rw [moreL_length]; split <;> omega
    have a3 : (i - told) / 255 + (b.length - (i + m)) / 255 ≤ (b.length - told) / 255 := by omega
    split at a1 <;> omega

/-! Loosening. -/
def extR : List UInt8 → Nat → Option (Nat × List UInt8)
  | [], _ => none
  | c :: l, n => if c.toNat < 255 then some (n + c.toNat, l) else extR l (n + 255)
def extRd (l : List UInt8) (n : Nat) : Option (Nat × List UInt8) := if n < 15 then some (n, l) else extR l n
theorem extR_ext : ∀ k (l : List UInt8) n, extR (extL k ++ l) n = some (n + k, l) := by
  intro k
  induction k using Nat.strongRecOn with
  | ind k ih =>
    intro l n
    by_cases h : 255 ≤ k
    · rw [extL_step k h, List.cons_append, extR, if_neg (by simp), ih (k - 255) (by omega)]
      rw [show n + 255 + (k - 255) = n + k by omega]
    · rw [extL_small k (by omega), List.cons_append, extR]
      have e : (UInt8.ofNat k).toNat = k := by rw [UInt8.toNat_ofNat']; omega
      rw [e, if_pos (by omega)]
      rfl
theorem extR_cut : ∀ k (l : List UInt8) n j, j < (extL k).length → extR ((extL k ++ l).take j) n = none := by
  intro k
  induction k using Nat.strongRecOn with
  | ind k ih =>
    intro l n j hj
    cases j with
    | zero => rfl
    | succ j =>
      by_cases h : 255 ≤ k
      · rw [extL_step k h] at hj ⊢
        rw [List.cons_append, List.take_succ_cons, extR, if_neg (by simp)]
        exact ih (k - 255) (by omega) _ _ _ (by simpa using hj)
      · rw [extL_small k (by omega)] at hj
        simp at hj
theorem extRd_more (n : Nat) (l : List UInt8) : extRd (moreL n ++ l) (min n 15) = some (n, l) := by
  unfold extRd moreL
  by_cases h : n < 15
  · rw [if_pos (by omega), if_pos h, List.nil_append, show min n 15 = n by omega]
  · rw [if_neg (by omega), if_neg h, extR_ext, show min n 15 + (n - 15) = n by omega]
theorem extRd_take (n : Nat) (l : List UInt8) (j : Nat) : extRd ((moreL n ++ l).take j) (min n 15) = if j < (moreL n).length then none else some (n, l.take (j - (moreL n).length)) := by
  by_cases hj : j < (moreL n).length
  · rw [if_pos hj]
    unfold extRd
    unfold moreL at hj ⊢
    by_cases h : n < 15
    · rw [if_pos h] at hj; simp at hj
    · rw [if_neg h] at hj ⊢
      rw [if_neg (by omega)]
      exact extR_cut _ _ _ _ hj
  · rw [if_neg hj, List.take_append, List.take_of_length_le (by omega)]
    exact extRd_more n _
def copyF (out : List UInt8) (d : Nat) : Nat → List UInt8
  | 0 => out
  | k + 1 => copyF (out ++ [out.getD (out.length - d) 0]) d k
theorem copyF_length (d : Nat) : ∀ k (out : List UInt8), (copyF out d k).length = out.length + k
  | 0, _ => rfl
  | k + 1, out => by rw [copyF, copyF_length d k]; simp; omega
inductive LoR
  | stop (out : List UInt8) (e : Int)
  | next (l out : List UInt8)
def loCopy (most : Nat) (t : UInt8) (out l : List UInt8) : LoR :=
  if l.length < 2 then .stop [] 3
  else if getL (l.take 2) = 0 ∨ out.length < getL (l.take 2) then .stop [] 4
  else match extRd (l.drop 2) (t.toNat % 16) with
    | none => .stop [] 3
    | some (m, l') => if most < out.length + (m + 4) then .stop [] 5 else .next l' (copyF out (getL (l.take 2)) (m + 4))
def loLits (most : Nat) (t : UInt8) (out : List UInt8) (a : Nat) (l : List UInt8) : LoR :=
  if l.length < a then .stop [] 3
  else if most < out.length + a then .stop [] 5
  else if l.length = a then .stop (out ++ l) 0
  else loCopy most t (out ++ l.take a) (l.drop a)
def loStep (most : Nat) (out : List UInt8) : List UInt8 → LoR
  | [] => .stop [] 3
  | t :: l => match extRd l (t.toNat / 16) with
    | none => .stop [] 3
    | some (a, l') => loLits most t out a l'
def loGo (most : Nat) : Nat → List UInt8 → List UInt8 → List UInt8 × Int
  | 0, _, _ => ([], 3)
  | f + 1, l, out => match loStep most out l with
    | .stop o e => (o, e)
    | .next l' o => loGo most f l' o
def loosenF (b : List UInt8) (most : Int) : List UInt8 × Int := if most < 0 ∨ 65536 < most then ([], 2) else loGo most.toNat (b.length + 1) b []

theorem extR_len : ∀ (l : List UInt8) n m l', extR l n = some (m, l') → l'.length < l.length
  | [], _, _, _, h => by cases h
  | c :: l, n, m, l', h => by
    unfold extR at h
    split at h
    · cases h; simp
    · have := extR_len l _ _ _ h; simp; omega
theorem extRd_len {l : List UInt8} {n m : Nat} {l' : List UInt8} (h : extRd l n = some (m, l')) : l'.length ≤ l.length := by
  unfold extRd at h
  split at h
  · cases h; exact Nat.le_refl _
  · have := extR_len _ _ _ _ h; omega
theorem loStep_len {most : Nat} {out l l' o : List UInt8} (h : loStep most out l = .next l' o) : l'.length < l.length := by
  unfold loStep at h
  split at h
  · cases h
  · rename_i t l
    split at h
    · cases h
    · rename_i a l2 h2
      have h3 := extRd_len h2
      unfold loLits at h
      split at h
      · cases h
      · split at h
        · cases h
        · split at h
          · cases h
          · unfold loCopy at h
            split at h
            · cases h
            · split at h
              · cases h
              · split at h
                · cases h
                · rename_i m l4 h4
                  split at h
                  · cases h
                  · cases h
                    have := extRd_len h4
                    simp at this ⊢
                    omega

theorem getL_put2 (d : Nat) (h : d ≤ 65535) (l : List UInt8) : getL ((putL d 2 ++ l).take 2) = d := by
  rw [List.take_append_of_le_length (by simp), List.take_of_length_le (by simp), getL_putL]
  omega
theorem copy_text {b : List UInt8} {i c : Nat} (hc : c < i) : ∀ m j, (∀ t, t < j + m → b[c + t]? = b[i + t]?) → i + j + m ≤ b.length → copyF (b.take (i + j)) (i - c) m = b.take (i + j + m)
  | 0, j, _, _ => rfl
  | m + 1, j, h, hl => by
    rw [copyF]
    have e : (b.take (i + j)).length - (i - c) = c + j := by rw [List.length_take]; omega
    have e2 : (b.take (i + j)).getD (c + j) 0 = b[i + j]'(by omega) := by
      rw [List.getD_eq_getElem?_getD, List.getElem?_take, if_pos (by omega), h j (by omega), List.getElem?_eq_getElem (by omega)]
      rfl
    rw [e, e2, ← List.take_succ_eq_append_getElem (by omega)]
    have := copy_text hc m (j + 1) (fun t ht => h t (by omega)) (by omega)
    rw [show i + (j + 1) = i + j + 1 by omega] at this
    rw [this]
    congr 1; omega

/-- What a sequence, cut somewhere, does. -/
theorem lo_more {b : List UInt8} {told i c m : Nat} {L : List UInt8} {most : Nat} (h1 : told ≤ i) (h2 : i + 12 ≤ b.length) (h3 : c < i) (h4 : i - c ≤ 65535) (h5 : 4 ≤ m) (h6 : i + m + 5 ≤ b.length) (h7 : ∀ t, t < m → b[c + t]? = b[i + t]?) :
    loStep most (b.take told) (seqL ((b.drop told).take (i - told)) (i - c) m ++ L) = if most < i then .stop [] 5 else if most < i + m then .stop [] 5 else .next L (b.take (i + m)) := by
  have e : ((b.drop told).take (i - told)).length = i - told := by rw [List.length_take, List.length_drop]; omega
  have et : (b.take told).length = told := by rw [List.length_take]; omega
  have ej : b.take told ++ (b.drop told).take (i - told) = b.take i := by
    rw [← List.take_add, show told + (i - told) = i by omega]
  unfold seqL
  rw [if_neg (by omega), List.cons_append, loStep, tok_nat, e, show (min (i - told) 15 * 16 + min (m - 4) 15) / 16 = min (i - told) 15 by omega, List.append_assoc, extRd_more]
  simp only
  unfold loLits
  rw [if_neg (by simp; omega), et, show told + (i - told) = i by omega]
  by_cases hm : most < i
  · rw [if_pos hm, if_pos hm]
  rw [if_neg hm, if_neg hm, if_neg (by simp [e, putL_length]), List.append_assoc]
  have et2 : ((b.drop told).take (i - told) ++ (putL (i - c) 2 ++ moreL (m - 4) ++ L)).take (i - told) = (b.drop told).take (i - told) := List.take_left' e
  have et3 : ((b.drop told).take (i - told) ++ (putL (i - c) 2 ++ moreL (m - 4) ++ L)).drop (i - told) = putL (i - c) 2 ++ moreL (m - 4) ++ L := List.drop_left' e
  rw [et2, et3, ej]
  unfold loCopy
  have el : (b.take i).length = i := by rw [List.length_take]; omega
  rw [if_neg (by simp [putL_length]), List.append_assoc, getL_put2 _ h4, el, if_neg (by omega), tok_nat, show (min (i - told) 15 * 16 + min (m - 4) 15) % 16 = min (m - 4) 15 by omega]
  have ed : (putL (i - c) 2 ++ (moreL (m - 4) ++ L)).drop 2 = moreL (m - 4) ++ L := List.drop_left' (by simp)
  rw [ed, extRd_more]
  simp only
  rw [show i + (m - 4 + 4) = i + m by omega, show m - 4 + 4 = m by omega]
  have := copy_text (b := b) h3 m 0 (fun t ht => h7 t (by omega)) (by omega)
  rw [Nat.add_zero] at this
  rw [this]
theorem lo_last {b : List UInt8} {told most : Nat} (h : told ≤ b.length) : loStep most (b.take told) (seqL (b.drop told) 0 0) = if most < b.length then .stop [] 5 else .stop b 0 := by
  have et : (b.take told).length = told := by rw [List.length_take]; omega
  have el : (b.drop told).length = b.length - told := List.length_drop
  unfold seqL
  rw [if_pos rfl, loStep, tok_nat, show (min (b.drop told).length 15 * 16 + min (0 - 4) 15) / 16 = min (b.drop told).length 15 by omega, List.append_nil, extRd_more]
  simp only
  unfold loLits
  rw [if_neg (by omega), et, el, show told + (b.length - told) = b.length by omega, if_pos rfl, List.take_append_drop]
theorem enc_loosen {b : List UInt8} {told : Nat} {L : List UInt8} {most : Nat} (h : Enc b told L) : ∀ f, L.length < f → loGo most f L (b.take told) = if most < b.length then ([], 5) else (b, 0) := by
  induction h with
  | last told h1 h2 =>
    intro f hf
    cases f with
    | zero => omega
    | succ f =>
      rw [loGo, lo_last h1]
      by_cases hm : most < b.length
      · rw [if_pos hm, if_pos hm]
      · rw [if_neg hm, if_neg hm]
  | more told i c m L h1 h2 h3 h4 h5 h6 h7 h8 ih =>
    intro f hf
    cases f with
    | zero => omega
    | succ f =>
      rw [loGo, lo_more h1 h2 h3 h4 h5 h6 h7]
      rw [List.length_append, seqL_length] at hf
      by_cases hm : most < i
      · rw [if_pos hm, if_pos (show most < b.length by omega)]
      · rw [if_neg hm]
        by_cases hm2 : most < i + m
        · rw [if_pos hm2, if_pos (show most < b.length by omega)]
        · rw [if_neg hm2]
          exact ih f (by omega)
/-- LOSSLESS. -/
theorem loosen_squeeze (b : List UInt8) (most : Int) (h0 : 0 ≤ most) (h1 : most ≤ 65536) : loosenF (squeezeF b) most = if most < (b.length : Int) then ([], 5) else (b, 0) := by
  unfold loosenF
  rw [if_neg (by omega)]
  have := enc_loosen (most := most.toNat) (squeeze_enc b) ((squeezeF b).length + 1) (by omega)
  rw [List.take_zero] at this
  rw [this]
  by_cases hm : most < (b.length : Int)
  · rw [if_pos hm, if_pos (by omega)]
  · rw [if_neg hm, if_neg (by omega)]

/-! Cut somewhere. -/
theorem take_pre {x : List UInt8} {j : Nat} {y : List UInt8} (h : x.length ≤ j) : (x ++ y).take j = x ++ y.take (j - x.length) := by rw [List.take_append, List.take_of_length_le h]
theorem lo_cut {b : List UInt8} {told i c m : Nat} {L : List UInt8} {most : Nat} (hb : b.length ≤ most) (h1 : told ≤ i) (h2 : i + 12 ≤ b.length) (h3 : c < i) (h4 : i - c ≤ 65535) (h5 : 4 ≤ m) (h6 : i + m + 5 ≤ b.length) (h7 : ∀ t, t < m → b[c + t]? = b[i + t]?) (j : Nat) :
    loStep most (b.take told) ((seqL ((b.drop told).take (i - told)) (i - c) m ++ L).take j) = .stop [] 3 ∨ loStep most (b.take told) ((seqL ((b.drop told).take (i - told)) (i - c) m ++ L).take j) = .stop (b.take i) 0 ∨
      (∃ k, j = (seqL ((b.drop told).take (i - told)) (i - c) m).length + k ∧ loStep most (b.take told) ((seqL ((b.drop told).take (i - told)) (i - c) m ++ L).take j) = .next (L.take k) (b.take (i + m))) := by
  by_cases hj : (seqL ((b.drop told).take (i - told)) (i - c) m).length ≤ j
  · right; right
    refine ⟨j - (seqL ((b.drop told).take (i - told)) (i - c) m).length, by omega, ?_⟩
    rw [take_pre hj, lo_more h1 h2 h3 h4 h5 h6 h7, if_neg (by omega), if_neg (by omega)]
  have e : ((b.drop told).take (i - told)).length = i - told := by rw [List.length_take, List.length_drop]; omega
  have et : (b.take told).length = told := by rw [List.length_take]; omega
  have ej : b.take told ++ (b.drop told).take (i - told) = b.take i := by
    rw [← List.take_add, show told + (i - told) = i by omega]
  rw [seqL_length, e, if_neg (by omega)] at hj
  unfold seqL
  cases j with
  | zero => left; rfl
  | succ j =>
    rw [if_neg (by omega), List.cons_append, List.take_succ_cons, loStep, tok_nat, e, show (min (i - told) 15 * 16 + min (m - 4) 15) / 16 = min (i - told) 15 by omega, List.append_assoc, extRd_take]
    by_cases hq : j < (moreL (i - told)).length
    · left; rw [if_pos hq]
    rw [if_neg hq]
    generalize hp : j - (moreL (i - told)).length = p
    simp only
    unfold loLits
    by_cases hp1 : p < i - told
    · left
      rw [if_pos (by rw [List.length_take]; omega)]
    have hl : i - told ≤ p := by omega
    have hlit : ((b.drop told).take (i - told) ++ (putL (i - c) 2 ++ moreL (m - 4)) ++ L).take p = (b.drop told).take (i - told) ++ (putL (i - c) 2 ++ moreL (m - 4) ++ L).take (p - (i - told)) := by
      rw [List.append_assoc, take_pre (by omega), e]
    rw [hlit, if_neg (by rw [List.length_append, e]; omega), et, if_neg (by omega)]
    by_cases hp2 : p = i - told
    · right; left
      rw [hp2, Nat.sub_self, List.take_zero, List.append_nil, if_pos e, ej]
    left
    have h8 : 0 < p - (i - told) := by omega
    rw [if_neg (by rw [List.length_append, e, List.length_take]; simp [putL_length]; omega), List.take_left' e, List.drop_left' e]
    unfold loCopy
    by_cases hp3 : p - (i - told) < 2
    · rw [if_pos (by rw [List.length_take]; omega)]
    have h9 : ((putL (i - c) 2 ++ moreL (m - 4) ++ L).take (p - (i - told))) = putL (i - c) 2 ++ (moreL (m - 4) ++ L).take (p - (i - told) - 2) := by
      rw [List.append_assoc, take_pre (by simp; omega), putL_length]
    have el : (b.take i).length = i := by rw [List.length_take]; omega
    rw [h9, if_neg (by simp [putL_length]), getL_put2 _ h4, ej, el, if_neg (by omega), List.drop_left' (by simp), tok_nat, show (min (i - told) 15 * 16 + min (m - 4) 15) % 16 = min (m - 4) 15 by omega, extRd_take, if_pos (by omega)]
theorem enc_cut {b : List UInt8} {told : Nat} {L : List UInt8} {most : Nat} (hb : b.length ≤ most) (h : Enc b told L) : ∀ f j, j < L.length → (L.take j).length < f → loGo most f (L.take j) (b.take told) = ([], 3) ∨ ∃ k, loGo most f (L.take j) (b.take told) = (b.take k, 0) := by
  induction h with
  | last told h1 h2 =>
    intro f j hj hf
    cases f with
    | zero => omega
    | succ f =>
      left
      have et : (b.take told).length = told := by rw [List.length_take]; omega
      have el : (b.drop told).length = b.length - told := List.length_drop
      have hs : loStep most (b.take told) ((seqL (b.drop told) 0 0).take j) = .stop [] 3 := by
        rw [seqL_length, if_pos rfl] at hj
        unfold seqL
        cases j with
        | zero => rfl
        | succ j =>
          rw [if_pos rfl, List.take_succ_cons, loStep, tok_nat, show (min (b.drop told).length 15 * 16 + min (0 - 4) 15) / 16 = min (b.drop told).length 15 by omega, List.append_nil, extRd_take]
          by_cases hq : j < (moreL (b.drop told).length).length
          · rw [if_pos hq]
          rw [if_neg hq]
          simp only
          unfold loLits
          rw [if_pos (by rw [List.length_take]; omega)]
      rw [loGo, hs]
  | more told i c m L h1 h2 h3 h4 h5 h6 h7 h8 ih =>
    intro f j hj hf
    cases f with
    | zero => omega
    | succ f =>
      rw [loGo]
      rcases lo_cut (L := L) (most := most) hb h1 h2 h3 h4 h5 h6 h7 j with hs | hs | ⟨k, hk, hs⟩
      · left; rw [hs]
      · right; exact ⟨i, by rw [hs]⟩
      · rw [hs]
        simp only
        rw [List.length_append] at hj
        refine ih f k (by omega) ?_
        have e : (seqL ((b.drop told).take (i - told)) (i - c) m ++ L).take j = seqL ((b.drop told).take (i - told)) (i - c) m ++ L.take k := by
          rw [hk, take_pre (by omega)]
          congr 2; omega
        rw [e, List.length_append, seqL_length] at hf
        omega
theorem loosen_cut (b : List UInt8) (j : Nat) (hb : b.length ≤ 65536) (hj : j < (squeezeF b).length) : loosenF ((squeezeF b).take j) 65536 = ([], 3) ∨ ∃ k, loosenF ((squeezeF b).take j) 65536 = (b.take k, 0) := by
  unfold loosenF
  rw [if_neg (by omega)]
  have := enc_cut (most := 65536) hb (squeeze_enc b) (((squeezeF b).take j).length + 1) j hj (by omega)
  rw [List.take_zero] at this
  exact this

/-! So many times one byte. -/
theorem rep_drop (c : UInt8) (n k : Nat) : (List.replicate n c).drop k = List.replicate (n - k) c := by simp
theorem rep_four (c : UInt8) (n : Nat) (h : 4 ≤ n) : (List.replicate n c).take 4 = List.replicate 4 c := by rw [List.take_replicate, Nat.min_eq_left h]
theorem comm_rep (c : UInt8) (n : Nat) : ∀ k i, i + 1 + k ≤ n → comm (List.replicate n c) i (i + 1) k = k
  | 0, _, _ => rfl
  | k + 1, i, h => by
    rw [comm, if_pos (by rw [List.getElem?_replicate, List.getElem?_replicate, if_pos (by omega), if_pos (by omega)]), comm_rep c n k (i + 1) (by omega)]
theorem runs_bound (c : UInt8) (n : Nat) : (squeezeF (List.replicate n c)).length ≤ n / 255 + 13 := by
  unfold squeezeF
  rw [List.length_replicate]
  have z : ∀ j, (List.replicate 4096 0).getD j 0 = 0 := fun j => by rw [List.getD_eq_getElem?_getD, List.getElem?_replicate]; split <;> rfl
  have last : ∀ f T told i, n < i + 12 → (sqGo (List.replicate n c) f T told i).length = 1 + (moreL (n - told)).length + (n - told) := by
    intro f T told i h
    have e : (seqL ((List.replicate n c).drop told) 0 0).length = 1 + (moreL (n - told)).length + (n - told) := by
      rw [seqL_length, if_pos rfl, rep_drop, List.length_replicate]; omega
    cases f with
    | zero => rw [sqGo, e]
    | succ f => rw [sqGo, if_pos (by rw [List.length_replicate]; omega), e]
  by_cases h12 : n < 12
  · rw [last _ _ _ _ (by omega), moreL_length, if_pos (by omega)]; omega
  rw [sqGo, if_neg (by rw [List.length_replicate]; omega), z, if_pos (.inl rfl)]
  by_cases h13 : n < 13
  · rw [last _ _ _ _ (by omega), moreL_length, if_pos (by omega)]; omega
  obtain ⟨q, rfl⟩ : ∃ q, n = q + 1 := ⟨n - 1, by omega⟩
  have hh : lzHash ((List.replicate (q + 1) c).drop (0 + 1)) = lzHash ((List.replicate (q + 1) c).drop 0) := by
    unfold lzHash
    rw [rep_drop, rep_drop, rep_four _ _ (by omega), rep_four _ _ (by omega)]
  have hlt := lzHash_lt ((List.replicate (q + 1) c).drop 0)
  have hset : ((List.replicate 4096 0).set (lzHash ((List.replicate (q + 1) c).drop 0)) (0 + 1)).getD (lzHash ((List.replicate (q + 1) c).drop 0)) 0 = 1 := by
    rw [List.getD_eq_getElem?_getD, List.getElem?_set, if_pos rfl, if_pos (by rw [List.length_replicate]; omega)]
    rfl
  rw [sqGo, if_neg (by rw [List.length_replicate]; omega), hh, hset, if_neg (by
    rintro (h | h | h)
    · omega
    · omega
    · apply h
      rw [rep_drop, rep_drop, rep_four _ _ (by omega), rep_four _ _ (by omega)])]
  have hk : comm (List.replicate (q + 1) c) (1 - 1) (0 + 1) ((List.replicate (q + 1) c).length - 5 - (0 + 1)) = q - 5 := by
    rw [List.length_replicate]
    have := comm_rep c (q + 1) (q + 1 - 5 - (0 + 1)) 0 (by omega)
    rw [this]; omega
  rw [hk, List.length_append, seqL_length, last _ _ _ _ (by omega), if_neg (show ¬ q - 5 = 0 by omega)]
  have e1 : (((List.replicate (q + 1) c).drop 0).take (0 + 1 - 0)).length = 1 := by rw [rep_drop, List.length_take, List.length_replicate]; omega
  have a1 : (moreL 1).length = 0 := rfl
  have a2 : (moreL (q - 5 - 4)).length ≤ q / 255 + 1 := by rw [moreL_length]; split <;> omega
  have a3 : (moreL (q + 1 - (0 + 1 + (q - 5)))).length = 0 := by rw [moreL_length, if_pos (by omega)]
  rw [e1, a1, a3]
  omega

/-! Single rounds. -/
theorem sq_no {b : List UInt8} {f : Nat} {T : List Nat} {t j h p : Nat} (hh : h = lzHash (b.drop j)) (hp : p = T.getD h 0) (hgo : j + 12 ≤ b.length) (hc : p = 0 ∨ 65535 < j + 1 - p ∨ (b.drop (p - 1)).take 4 ≠ (b.drop j).take 4) :
    sqGo b (f + 1) T t j = sqGo b f (T.set h (j + 1)) t (j + 1) := by
  subst hp hh
  rw [sqGo, if_neg (by omega), if_pos hc]
theorem sq_yes {b : List UInt8} {f : Nat} {T : List Nat} {t j h q m : Nat} (hh : h = lzHash (b.drop j)) (hp : q + 1 = T.getD h 0) (hgo : j + 12 ≤ b.length) (hd : ¬ 65535 < j - q) (he : (b.drop q).take 4 = (b.drop j).take 4) (hm : m = comm b q j (b.length - 5 - j)) :
    sqGo b (f + 1) T t j = seqL ((b.drop t).take (j - t)) (j - q) m ++ sqGo b f (T.set h (j + 1)) (j + m) (j + m) := by
  subst hm hh
  rw [sqGo, if_neg (by omega), ← hp, Nat.add_sub_cancel, show j + 1 - (q + 1) = j - q by omega, if_neg (by
    rintro (h | h | h)
    · omega
    · exact hd h
    · exact h he)]
theorem sq_end {b : List UInt8} {f : Nat} {T : List Nat} {t j : Nat} (h : b.length < j + 12) : sqGo b f T t j = seqL (b.drop t) 0 0 := by
  cases f with
  | zero => rfl
  | succ f => rw [sqGo, if_pos h]
theorem set_le {T : List Nat} {h j k : Nat} (hT : ∀ i, T.getD i 0 ≤ j) (hk : j + 1 ≤ k) : ∀ i, (T.set h (j + 1)).getD i 0 ≤ k := by
  intro i
  rw [List.getD_eq_getElem?_getD, List.getElem?_set]
  have := hT i
  rw [List.getD_eq_getElem?_getD] at this
  split
  · split <;> simp <;> omega
  · omega
theorem seqL_bound (s : List UInt8) (d m : Nat) (hm : 4 ≤ m) : (seqL s d m).length ≤ 2 * (s.length + m) := by
  rw [seqL_length, if_neg (by omega)]
  have a1 : (moreL s.length).length ≤ s.length := by rw [moreL_length]; split <;> omega
  have a2 : (moreL (m - 4)).length + 4 ≤ m := by rw [moreL_length]; split <;> omega
  omega
end Go.Hd
