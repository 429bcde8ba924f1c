/- Joined: what one statement of this layer stands on, part 11 of 19; nothing is assumed. -/
import Derived.Test.YtakliplkabgmbaaKB8
set_option maxRecDepth 20000
namespace Go.Proofs.Ytakliplkabgmbaa
open Go.RowKit Go.Hd

theorem takeR_inv {n : Nat} {l b r : List UInt8} (h : takeR n l = .ok b r) : l = b ++ r ∧ b.length = n := by
  unfold takeR at h
  split at h
  · cases h
  · cases h
    exact ⟨(List.take_append_drop n l).symm, by simp; omega⟩
theorem bigR_inv {n x : Nat} {l r : List UInt8} (h : bigR n l = .ok x r) : l = bigB x n ++ r ∧ x < 256 ^ n := by
  unfold bigR at h
  cases h1 : takeR n l with
  | no c => rw [h1] at h; cases h
  | ok b r1 =>
    rw [h1] at h
    cases h
    obtain ⟨h2, h3⟩ := takeR_inv h1
    have e : bigB (getL b.reverse) n = b := by
      unfold bigB
      have := putL_getL b.reverse
      rw [List.length_reverse, h3] at this
      rw [this, List.reverse_reverse]
    refine ⟨by rw [e]; exact h2, ?_⟩
    have := getL_lt b.reverse
    rw [List.length_reverse, h3] at this
    exact this
theorem leastR_inv {n lo x : Nat} {l r : List UInt8} (h : leastR n lo l = .ok x r) : l = bigB x n ++ r ∧ x < 256 ^ n ∧ lo ≤ x := by
  unfold leastR at h
  cases h1 : bigR n l with
  | no c => rw [h1] at h; cases h
  | ok y r1 =>
    rw [h1, Rs.bind_ok] at h
    split at h
    · cases h
    · cases h
      obtain ⟨h2, h3⟩ := bigR_inv h1
      exact ⟨h2, h3, by omega⟩
theorem signedR_inv {n : Nat} {below z : Int} {l r : List UInt8} (h : signedR n below l = .ok z r) : ∃ u, l = bigB u n ++ r ∧ u < 256 ^ n ∧ z = sext n u ∧ z < below := by
  unfold signedR at h
  cases h1 : bigR n l with
  | no c => rw [h1] at h; cases h
  | ok u r1 =>
    rw [h1, Rs.bind_ok] at h
    split at h
    · cases h
    · cases h
      obtain ⟨h2, h3⟩ := bigR_inv h1
      exact ⟨u, h2, h3, rfl, by omega⟩
theorem bigB_mod {x y n : Nat} (h : x % 256 ^ n = y % 256 ^ n) : bigB x n = bigB y n := by
  unfold bigB
  have e : ∀ z, putL z n = putL (z % 256 ^ n) n := fun z => by
    have h1 := putL_getL (putL z n)
    rw [getL_putL, putL_length] at h1
    exact h1.symm
  rw [e x, e y, h]
theorem u64Of_nat {x : Nat} (h : x < 18446744073709551616) : u64Of (x : Int) = x := by unfold u64Of; omega
theorem intB_of {c : Nat} {n : Int} {l r : List UInt8} (hc : 0xcc ≤ c ∧ c ≤ 0xd3) (h : intR c l = .ok n r) : ∃ e, l = e ++ r ∧ intB n = UInt8.ofNat c :: e ∧ in64 n := by
  rcases (by omega : c = 0xcc ∨ c = 0xcd ∨ c = 0xce ∨ c = 0xcf ∨ c = 0xd0 ∨ c = 0xd1 ∨ c = 0xd2 ∨ c = 0xd3) with rfl | rfl | rfl | rfl | rfl | rfl | rfl | rfl
  · have h : (leastR 1 128 l).bind (fun x r => (.ok (x : Int) r : Rs Int)) = .ok n r := h
    cases h1 : leastR 1 128 l with
    | no c => rw [h1] at h; cases h
    | ok x r1 =>
      rw [h1] at h
      cases h
      obtain ⟨g1, g2, g3⟩ := leastR_inv h1
      have g2 : x < 256 := g2
      refine ⟨_, g1, ?_, by unfold in64; omega⟩
      unfold intB
      rw [if_neg (by omega), if_pos (by omega), if_pos (by omega), u64Of_nat (by omega)]; rfl
  · have h : (leastR 2 256 l).bind (fun x r => (.ok (x : Int) r : Rs Int)) = .ok n r := h
    cases h1 : leastR 2 256 l with
    | no c => rw [h1] at h; cases h
    | ok x r1 =>
      rw [h1] at h
      cases h
      obtain ⟨g1, g2, g3⟩ := leastR_inv h1
      have g2 : x < 65536 := g2
      refine ⟨_, g1, ?_, by unfold in64; omega⟩
      unfold intB
      rw [if_neg (by omega), if_pos (by omega), if_neg (by omega), if_pos (by omega), u64Of_nat (by omega)]; rfl
  · have h : (leastR 4 65536 l).bind (fun x r => (.ok (x : Int) r : Rs Int)) = .ok n r := h
    cases h1 : leastR 4 65536 l with
    | no c => rw [h1] at h; cases h
    | ok x r1 =>
      rw [h1] at h
      cases h
      obtain ⟨g1, g2, g3⟩ := leastR_inv h1
      have g2 : x < 4294967296 := g2
      refine ⟨_, g1, ?_, by unfold in64; omega⟩
      unfold intB
      rw [if_neg (by omega), if_pos (by omega), if_neg (by omega), if_neg (by omega), if_pos (by omega), u64Of_nat (by omega)]; rfl
  · rw [intR_cf] at h
    cases h1 : leastR 8 4294967296 l with
    | no c => rw [h1] at h; cases h
    | ok x r1 =>
      rw [h1, Rs.bind_ok] at h
      split at h
      · cases h
      · cases h
        obtain ⟨g1, g2, g3⟩ := leastR_inv h1
        refine ⟨_, g1, ?_, by unfold in64; omega⟩
        unfold intB
        rw [if_neg (by omega), if_pos (by omega), if_neg (by omega), if_neg (by omega), if_neg (by omega), u64Of_nat (by omega)]; rfl
  · rw [intR_208] at h
    obtain ⟨u, g1, g2, g3, g4⟩ := signedR_inv h
    have g2 : u < 256 := g2
    have hz : -128 ≤ n ∧ n < 0 ∧ u64Of n % 256 ^ 1 = u % 256 ^ 1 ∧ ¬ 0 ≤ n := by
      unfold sext at g3
      unfold u64Of
      simp only [Nat.reduceMul, Nat.reduceSub, Nat.reducePow, Int.reducePow] at g3 ⊢
      split at g3 <;> omega
    refine ⟨_, g1, ?_, by unfold in64; omega⟩
    unfold intB
    rw [if_neg (by omega), if_neg (by omega), if_pos (by omega), bigB_mod hz.2.2.1]; rfl
  · rw [intR_209] at h
    obtain ⟨u, g1, g2, g3, g4⟩ := signedR_inv h
    have g2 : u < 65536 := g2
    have hz : -32768 ≤ n ∧ n < 0 ∧ u64Of n % 256 ^ 2 = u % 256 ^ 2 ∧ ¬ 0 ≤ n := by
      unfold sext at g3
      unfold u64Of
      simp only [Nat.reduceMul, Nat.reduceSub, Nat.reducePow, Int.reducePow] at g3 ⊢
      split at g3 <;> omega
    refine ⟨_, g1, ?_, by unfold in64; omega⟩
    unfold intB
    rw [if_neg (by omega), if_neg (by omega), if_neg (by omega), if_pos (by omega), bigB_mod hz.2.2.1]; rfl
  · rw [intR_210] at h
    obtain ⟨u, g1, g2, g3, g4⟩ := signedR_inv h
    have g2 : u < 4294967296 := g2
    have hz : -2147483648 ≤ n ∧ n < 0 ∧ u64Of n % 256 ^ 4 = u % 256 ^ 4 ∧ ¬ 0 ≤ n := by
      unfold sext at g3
      unfold u64Of
      simp only [Nat.reduceMul, Nat.reduceSub, Nat.reducePow, Int.reducePow] at g3 ⊢
      split at g3 <;> omega
    refine ⟨_, g1, ?_, by unfold in64; omega⟩
    unfold intB
    rw [if_neg (by omega), if_neg (by omega), if_neg (by omega), if_neg (by omega), if_pos (by omega), bigB_mod hz.2.2.1]; rfl
  · rw [intR_211] at h
    obtain ⟨u, g1, g2, g3, g4⟩ := signedR_inv h
    have g2 : u < 18446744073709551616 := g2
    have hz : -9223372036854775808 ≤ n ∧ n < 0 ∧ u64Of n % 256 ^ 8 = u % 256 ^ 8 ∧ ¬ 0 ≤ n := by
      unfold sext at g3
      unfold u64Of
      simp only [Nat.reduceMul, Nat.reduceSub, Nat.reducePow, Int.reducePow] at g3 ⊢
      split at g3 <;> omega
    refine ⟨_, g1, ?_, by unfold in64; omega⟩
    unfold intB
    rw [if_neg (by omega), if_neg (by omega), if_neg (by omega), if_neg (by omega), if_neg (by omega), bigB_mod hz.2.2.1]; rfl
theorem putO_fit {l m : List UInt8} (h : (l ++ m).length ≤ 65536) : putO (some l) m = some (l ++ m) := by
  rw [putO_some, if_neg (by rw [List.length_append] at h; omega)]
theorem ofNat_toNat (c : UInt8) : UInt8.ofNat c.toNat = c := by simp
/-- A text that was read, written. -/
theorem text_of_read {c : UInt8} {l k r : List UInt8} (ht : isText c.toNat = true) (h : textR c.toNat l = .ok k r) : ∃ e, l = e ++ r ∧ ∀ l0, (l0 ++ (c :: e)).length ≤ 65536 → textO (some l0) k = some (l0 ++ (c :: e)) := by
  have hc := c.toNat_lt
  unfold textR at h
  by_cases h5 : c.toNat / 32 = 5
  · rw [if_pos h5] at h
    obtain ⟨g1, g2⟩ := takeR_inv h
    refine ⟨k, g1, fun l0 hf => ?_⟩
    have e : (0xa0 ||| UInt8.ofNat k.length) = c := by
      rw [or_ofNat 0xa0 31 k.length (by decide) (by omega), show (0xa0 : UInt8).toNat = 160 from rfl, show 160 + k.length = c.toNat by omega, ofNat_toNat]
    unfold textO
    rw [if_pos (by omega), e, putO_fit hf]
  rw [if_neg h5] at h
  by_cases h9 : c.toNat = 0xd9
  · rw [if_pos h9] at h
    cases h1 : leastR 1 32 l with
    | no c => rw [h1] at h; cases h
    | ok x r1 =>
      rw [h1, Rs.bind_ok] at h
      obtain ⟨g1, g2, g3⟩ := leastR_inv h1
      obtain ⟨k1, k2⟩ := takeR_inv h
      have g2 : x < 256 := g2
      subst k2
      have ec : c = 0xd9 := by rw [← ofNat_toNat c, h9]; rfl
      subst ec
      refine ⟨bigB k.length 1 ++ k, by rw [g1, k1, List.append_assoc], fun l0 hf => ?_⟩
      unfold textO
      rw [if_neg (by omega), if_pos (by omega), putO_fit hf]
  rw [if_neg h9] at h
  have ha : c.toNat = 0xda := by
    unfold isText at ht
    simp at ht; omega
  cases h1 : leastR 2 256 l with
  | no c => rw [h1] at h; cases h
  | ok x r1 =>
    rw [h1, Rs.bind_ok] at h
    obtain ⟨g1, g2, g3⟩ := leastR_inv h1
    obtain ⟨k1, k2⟩ := takeR_inv h
    have g2 : x < 65536 := g2
    subst k2
    have ec : c = 0xda := by rw [← ofNat_toNat c, ha]; rfl
    subst ec
    refine ⟨bigB k.length 2 ++ k, by rw [g1, k1, List.append_assoc], fun l0 hf => ?_⟩
    unfold textO
    rw [if_neg (by omega), if_neg (by omega), if_pos (by omega), putO_fit hf]
theorem zip_back : ∀ ps : PsL, (ps.map (·.1)).zip (ps.map (·.2)) = ps
  | [] => rfl
  | (k, v) :: ps => by simp only [List.map_cons, List.zip_cons_cons, zip_back ps]
/-! Why not: too short, or of no form. -/
def NoC {α : Type} (f : List UInt8 → Rs α) : Prop := ∀ l c, f l = .no c → c = 3 ∨ c = 4
theorem NoC.pure {α : Type} (x : α) : NoC (fun r => .ok x r) := fun l c h => by cases h
theorem NoC.no {α : Type} : NoC (fun _ => (.no 4 : Rs α)) := fun l c h => by cases h; exact .inr rfl
theorem NoC.bind {α β : Type} {f : List UInt8 → Rs α} {g : α → List UInt8 → Rs β} (hf : NoC f) (hg : ∀ x, NoC (g x)) : NoC (fun l => (f l).bind g) := by
  intro l c h
  cases h1 : f l with
  | no c1 => simp only [h1, Rs.bind_no] at h; cases h; exact hf l c h1
  | ok x r => simp only [h1, Rs.bind_ok] at h; exact hg x r c h
theorem NoC.ite {α : Type} {c : Prop} [Decidable c] {f g : List UInt8 → Rs α} (hf : NoC f) (hg : NoC g) : NoC (fun l => if c then f l else g l) := by
  by_cases h : c
  · simp only [h, if_true]; exact hf
  · simp only [h, if_false]; exact hg
theorem NoC.guard {α β : Type} {f : List UInt8 → Rs α} (c : α → Prop) [DecidablePred c] (k : α → β) (hf : NoC f) : NoC (fun l => (f l).bind fun x r => if c x then .no 4 else .ok (k x) r) :=
  hf.bind (fun x => by
    by_cases h : c x
    · simp only [h, if_true]; exact NoC.no
    · simp only [h, if_false]; exact NoC.pure _)
theorem NoC.take (n : Nat) : NoC (takeR n) := by
  intro l c h
  unfold takeR at h
  split at h
  · cases h; exact .inl rfl
  · cases h
theorem NoC.big (n : Nat) : NoC (bigR n) := (NoC.take n).bind (fun b => NoC.pure _)
theorem NoC.least (n lo : Nat) : NoC (leastR n lo) := NoC.guard (fun x => x < lo) id (NoC.big n)
theorem NoC.signed (n : Nat) (below : Int) : NoC (signedR n below) := NoC.guard (fun u => below ≤ sext n u) (fun u => sext n u) (NoC.big n)
theorem NoC.int (c : Nat) : NoC (intR c) := by
  unfold intR
  refine NoC.ite ((NoC.least _ _).bind fun x => NoC.pure _) (NoC.ite ((NoC.least _ _).bind fun x => NoC.pure _) (NoC.ite ((NoC.least _ _).bind fun x => NoC.pure _) (NoC.ite (NoC.guard (fun x : Nat => 9223372036854775807 < x) (fun x : Nat => (x : Int)) (NoC.least _ _)) (NoC.ite (NoC.signed _ _) (NoC.ite (NoC.signed _ _) (NoC.ite (NoC.signed _ _) (NoC.signed _ _)))))))
theorem NoC.text (c : Nat) : NoC (textR c) := by
  unfold textR
  exact NoC.ite (NoC.take _) (NoC.ite ((NoC.least _ _).bind NoC.take) ((NoC.least _ _).bind NoC.take))
theorem NoC.byte : NoC byteR := by
  have : byteR = fun l => (takeR 1 l).bind fun b r => .ok (getL b) r := by funext l; exact byteR_take l
  rw [this]
  exact (NoC.take 1).bind fun b => NoC.pure _
theorem NoC.key (prev : Option (List UInt8)) : NoC (keyR prev) := by
  have : keyR prev = fun l => (byteR l).bind fun c r => if isText c = false then .no 4 else (textR c r).bind fun k r2 => if (match prev with | none => false | some p => leT k p) = true then .no 4 else .ok k r2 := by
    funext l; exact keyR_byte prev l
  rw [this]
  exact NoC.byte.bind fun c => NoC.ite NoC.no (NoC.guard (fun k => (match prev with | none => false | some p => leT k p) = true) id (NoC.text c))
theorem NoC.list {f : List UInt8 → Rs PV} (hf : NoC f) : ∀ n, NoC (listR f n)
  | 0 => by
    have : listR f 0 = fun l => .ok [] l := by funext l; rfl
    rw [this]; exact NoC.pure _
  | n + 1 => by
    have : listR f (n + 1) = fun l => (f l).bind fun v r => (listR f n r).bind fun vs r2 => .ok (v :: vs) r2 := by funext l; rfl
    rw [this]
    exact hf.bind fun v => (NoC.list hf n).bind fun vs => NoC.pure _
theorem NoC.dict {f : List UInt8 → Rs PV} (hf : NoC f) : ∀ n prev, NoC (dictR f n prev)
  | 0, prev => by
    have : dictR f 0 prev = fun l => .ok [] l := by funext l; rfl
    rw [this]; exact NoC.pure _
  | n + 1, prev => by
    have : dictR f (n + 1) prev = fun l => (keyR prev l).bind fun k r => (f r).bind fun v r2 => (dictR f n (some k) r2).bind fun vs r3 => .ok ((k, v) :: vs) r3 := by funext l; rfl
    rw [this]
    exact (NoC.key prev).bind fun k => hf.bind fun v => (NoC.dict hf n (some k)).bind fun vs => NoC.pure _
theorem NoC.lead {f : List UInt8 → Rs PV} (hf : NoC f) (c : Nat) : NoC (leadR f c) := by
  unfold leadR
  refine NoC.ite ((NoC.text c).bind fun t => NoC.pure _) (NoC.ite (NoC.pure _) (NoC.ite ((NoC.list hf _).bind fun l => NoC.pure _) (NoC.ite ((NoC.dict hf _ _).bind fun l => NoC.pure _) (NoC.ite ((NoC.int c).bind fun n => NoC.pure _) (NoC.ite (NoC.pure _) (NoC.ite (NoC.pure _) (NoC.ite (NoC.pure _) (NoC.ite (((NoC.big 1).bind NoC.take).bind fun b => NoC.pure _) (NoC.ite (((NoC.least 2 256).bind NoC.take).bind fun b => NoC.pure _) (NoC.ite ((NoC.least 2 16).bind fun n => (NoC.list hf n).bind fun l => NoC.pure _) (NoC.ite ((NoC.least 2 16).bind fun n => (NoC.dict hf n none).bind fun l => NoC.pure _) NoC.no)))))))))))
theorem NoC.dec : ∀ d, NoC (decV d)
  | 0 => by
    have : decV 0 = fun l => (byteR l).bind fun c r => bodyR 0 c r := by funext l; exact decV_byte 0 l
    rw [this]
    exact NoC.byte.bind fun c => NoC.no
  | d + 1 => by
    have : decV (d + 1) = fun l => (byteR l).bind fun c r => bodyR (d + 1) c r := by funext l; exact decV_byte (d + 1) l
    rw [this]
    exact NoC.byte.bind fun c => NoC.lead (NoC.dec d) c
theorem decV_no (d : Nat) (l : List UInt8) : decV d l ≠ .no 0 := fun h => by
  rcases NoC.dec d l 0 h with h | h <;> cases h
/-- What was read of a value, written again. -/
def ED (d : Nat) : Prop := ∀ l v r, decV d l = .ok v r → ∃ e, l = e ++ r ∧ canF d v = true ∧ OkV v ∧ ∀ l0, (l0 ++ e).length ≤ 65536 → encO d (some l0) v = some (l0 ++ e)
theorem list_of_read {d : Nat} (hd : ED d) : ∀ (n : Nat) (l : List UInt8) (vs : List PV) (r : List UInt8), listR (decV d) n l = .ok vs r → vs.length = n ∧ (∀ v ∈ vs, canF d v = true ∧ OkV v) ∧ ∃ e, l = e ++ r ∧ ∀ l0, (l0 ++ e).length ≤ 65536 → vs.foldl (encO d) (some l0) = some (l0 ++ e)
  | 0, l, vs, r, h => by
    cases h
    exact ⟨rfl, by simp, [], rfl, fun l0 _ => by simp⟩
  | n + 1, l, vs, r, h => by
    have h : (decV d l).bind (fun v r => (listR (decV d) n r).bind fun vs r2 => .ok (v :: vs) r2) = .ok vs r := h
    cases h1 : decV d l with
    | no c => rw [h1] at h; cases h
    | ok v r1 =>
      rw [h1, Rs.bind_ok] at h
      cases h2 : listR (decV d) n r1 with
      | no c => rw [h2] at h; cases h
      | ok ws r2 =>
        rw [h2] at h
        cases h
        obtain ⟨e1, g1, g2, g3, g4⟩ := hd l v r1 h1
        obtain ⟨f1, f2, e2, f3, f4⟩ := list_of_read hd n r1 ws r h2
        refine ⟨by simp [f1], fun w hw => ?_, e1 ++ e2, by rw [g1, f3, List.append_assoc], fun l0 hf => ?_⟩
        · rcases List.mem_cons.1 hw with rfl | hw
          · exact ⟨g2, g3⟩
          · exact f2 w hw
        · rw [List.foldl_cons, g4 l0 (by simp at hf ⊢; omega), f4 (l0 ++ e1) (by simpa using hf), List.append_assoc]
theorem dict_of_read {d : Nat} (hd : ED d) : ∀ (n : Nat) (prev : Option (List UInt8)) (l : List UInt8) (ps : PsL) (r : List UInt8), dictR (decV d) n prev l = .ok ps r →
    ps.length = n ∧ (∀ v ∈ ps.map (·.2), canF d v = true ∧ OkV v) ∧ risesT (ps.map (·.1)) = true ∧ (∀ p k, prev = some p → (ps.map (·.1)).head? = some k → leT k p = false) ∧ ∃ e, l = e ++ r ∧ ∀ l0, (l0 ++ e).length ≤ 65536 → ps.foldl (fun o x => encO d (textO o x.1) x.2) (some l0) = some (l0 ++ e)
  | 0, prev, l, ps, r, h => by
    cases h
    exact ⟨rfl, by simp, rfl, fun _ _ _ h => by simp at h, [], rfl, fun l0 _ => by simp⟩
  | n + 1, prev, l, ps, r, h => by
    have h : (keyR prev l).bind (fun k r => (decV d r).bind fun v r2 => (dictR (decV d) n (some k) r2).bind fun vs r3 => .ok ((k, v) :: vs) r3) = .ok ps r := h
    cases h0 : keyR prev l with
    | no c => rw [h0] at h; cases h
    | ok k r0 =>
      rw [h0, Rs.bind_ok] at h
      cases h1 : decV d r0 with
      | no c => rw [h1] at h; cases h
      | ok v r1 =>
        rw [h1, Rs.bind_ok] at h
        cases h2 : dictR (decV d) n (some k) r1 with
        | no c => rw [h2] at h; cases h
        | ok ws r2 =>
          rw [h2] at h
          cases h
          obtain ⟨e1, g1, g2, g3, g4⟩ := hd r0 v r1 h1
          obtain ⟨f1, f2, f3, f4, e2, f5, f6⟩ := dict_of_read hd n (some k) r1 ws r h2
          have hkey : ∃ e0, l = e0 ++ r0 ∧ (∀ l0, (l0 ++ e0).length ≤ 65536 → textO (some l0) k = some (l0 ++ e0)) ∧ ∀ p, prev = some p → leT k p = false := by
            cases l with
            | nil => cases h0
            | cons c l =>
              unfold keyR at h0
              simp only at h0
              split at h0
              · cases h0
              · rename_i ht
                have ht : isText c.toNat = true := by simpa using ht
                cases h3 : textR c.toNat l with
                | no c => rw [h3] at h0; cases h0
                | ok k2 r2 =>
                  rw [h3, Rs.bind_ok] at h0
                  obtain ⟨e, a1, a2⟩ := text_of_read ht h3
                  cases prev with
                  | none =>
                    have h0 : (Rs.ok k2 r2 : Rs (List UInt8)) = .ok k r0 := h0
                    cases h0
                    exact ⟨c :: e, by rw [a1]; rfl, a2, fun p hp => by cases hp⟩
                  | some p0 =>
                    have h0 : (if leT k2 p0 = true then (Rs.no 4 : Rs (List UInt8)) else .ok k2 r2) = .ok k r0 := h0
                    by_cases hle : leT k2 p0 = true
                    · rw [if_pos hle] at h0; cases h0
                    · rw [if_neg hle] at h0
                      cases h0
                      refine ⟨c :: e, by rw [a1]; rfl, a2, fun p hp => ?_⟩
                      cases hp
                      simpa using hle
          obtain ⟨e0, a1, a2, a3⟩ := hkey
          refine ⟨by simp [f1], fun w hw => ?_, ?_, fun p k' hp hk => ?_, e0 ++ e1 ++ e2, by rw [a1, g1, f5]; simp, fun l0 hf => ?_⟩
          · rw [List.map_cons] at hw
            rcases List.mem_cons.1 hw with rfl | hw
            · exact ⟨g2, g3⟩
            · exact f2 w hw
          · rw [List.map_cons]
            cases hws : ws.map (·.1) with
            | nil => rfl
            | cons k2 ks =>
              rw [hws] at f3 f4
              simp only [risesT, Bool.and_eq_true, Bool.not_eq_true']
              exact ⟨f4 k k2 rfl rfl, f3⟩
          · simp at hk
            subst hk
            exact a3 p hp
          · rw [List.foldl_cons]
            simp only
            rw [a2 l0 (by simp at hf ⊢; omega), g4 (l0 ++ e0) (by simp at hf ⊢; omega), f6 (l0 ++ e0 ++ e1) (by simp at hf ⊢; omega)]
            simp
theorem canF_mk {d : Nat} {k n : Int} {b t : List UInt8} {ks : List (List UInt8)} {l : List PV} (h0 : 0 ≤ k) (h7 : k ≤ 7) (hm : k = 7 → ks.length = l.length ∧ risesT ks = true) (hl : 6 ≤ k → ∀ v ∈ l, canF d v = true) : canF (d + 1) (.mk k n b t ks l) = true := by
  by_cases h6 : 6 ≤ k
  · rw [canF_many h6 h7 hm, List.all_eq_true]
    exact hl h6
  · exact canF_flat h0 (by omega)
theorem enc_dec : ∀ d, ED d
  | 0 => fun l v r h => by
    unfold decV at h
    split at h <;> cases h
  | d + 1 => fun l v r hh => by
    have hd := enc_dec d
    cases l with
    | nil => cases hh
    | cons c l =>
    have h : leadR (decV d) c.toNat l = .ok v r := hh
    clear hh
    have hc := c.toNat_lt
    have flat : ∀ (k n : Int) (b t : List UInt8), 0 ≤ k → k < 6 → canF (d + 1) (.mk k n b t [] []) = true := fun k n b t h0 h6 => canF_flat h0 h6
    unfold leadR at h
    by_cases ht : isText c.toNat = true
    · rw [if_pos ht] at h
      cases h1 : textR c.toNat l with
      | no c => rw [h1] at h; cases h
      | ok k r1 =>
        rw [h1] at h
        cases h
        obtain ⟨e, a1, a2⟩ := text_of_read ht h1
        exact ⟨c :: e, by rw [a1]; rfl, flat _ _ _ _ (by decide) (by decide), .mk (by unfold in64; omega) (by simp), a2⟩
    rw [if_neg ht] at h
    by_cases hn : c.toNat ≤ 0x7f ∨ 0xe0 ≤ c.toNat
    · rw [if_pos hn] at h
      cases h
      have hi : in64 (int8 c.toNat) := int8_in _ hc
      have hb : intB (int8 c.toNat) = [c] := by
        have : -32 ≤ int8 c.toNat ∧ int8 c.toNat ≤ 127 ∧ (int8 c.toNat % 256).toNat = c.toNat := by unfold int8; split <;> omega
        unfold intB
        rw [if_pos ⟨this.1, this.2.1⟩, this.2.2, ofNat_toNat]
      refine ⟨[c], rfl, flat _ _ _ _ (by decide) (by decide), .mk hi (by simp), fun l0 hf => ?_⟩
      show putO (some l0) (intB (int8 c.toNat)) = _
      rw [hb, putO_fit hf]
    rw [if_neg hn] at h
    by_cases h9 : c.toNat / 16 = 9
    · rw [if_pos h9] at h
      cases h1 : listR (decV d) (c.toNat % 16) l with
      | no c => rw [h1] at h; cases h
      | ok vs r1 =>
        rw [h1] at h
        cases h
        obtain ⟨f1, f2, e, f3, f4⟩ := list_of_read hd _ l vs r h1
        have ec : (0x90 ||| UInt8.ofNat vs.length) = c := by
          rw [or_ofNat 0x90 15 vs.length (by decide) (by omega), show (0x90 : UInt8).toNat = 144 from rfl, show 144 + vs.length = c.toNat by omega, ofNat_toNat]
        refine ⟨c :: e, by rw [f3]; rfl, canF_mk (by decide) (by decide) (fun h => absurd h (by decide)) (fun _ v hv => (f2 v hv).1), .mk (by unfold in64; omega) (fun v hv => (f2 v hv).2), fun l0 hf => ?_⟩
        show vs.foldl (encO d) (manyO 0x90 0xdc (some l0) vs.length) = _
        unfold manyO
        rw [if_pos (by omega), ec, putO_fit (by simp at hf ⊢; omega), f4 _ (by simp at hf ⊢; omega)]
        simp
    rw [if_neg h9] at h
    by_cases h8 : c.toNat / 16 = 8
    · rw [if_pos h8] at h
      cases h1 : dictR (decV d) (c.toNat % 16) none l with
      | no c => rw [h1] at h; cases h
      | ok ps r1 =>
        rw [h1] at h
        cases h
        obtain ⟨f1, f2, f3, _, e, f5, f6⟩ := dict_of_read hd _ none l ps r h1
        have hlen : (ps.map (·.2)).length = ps.length := by simp
        have ec : (0x80 ||| UInt8.ofNat (ps.map (·.2)).length) = c := by
          rw [or_ofNat 0x80 15 _ (by decide) (by omega), show (0x80 : UInt8).toNat = 128 from rfl, show 128 + (ps.map (·.2)).length = c.toNat by omega, ofNat_toNat]
        refine ⟨c :: e, by rw [f5]; rfl, canF_mk (by decide) (by decide) (fun _ => ⟨by simp, f3⟩) (fun _ v hv => (f2 v hv).1), .mk (by unfold in64; omega) (fun v hv => (f2 v hv).2), fun l0 hf => ?_⟩
        show ((ps.map (·.1)).zip (ps.map (·.2))).foldl (fun o x => encO d (textO o x.1) x.2) (manyO 0x80 0xde (some l0) (ps.map (·.2)).length) = _
        unfold manyO
        rw [if_pos (by omega), ec, putO_fit (by simp at hf ⊢; omega), zip_back, f6 _ (by simp at hf ⊢; omega)]
        simp
    rw [if_neg h8] at h
    by_cases hint : 0xcc ≤ c.toNat ∧ c.toNat ≤ 0xd3
    · rw [if_pos hint] at h
      cases h1 : intR c.toNat l with
      | no c => rw [h1] at h; cases h
      | ok n r1 =>
        rw [h1] at h
        cases h
        obtain ⟨e, a1, a2, a3⟩ := intB_of hint h1
        rw [ofNat_toNat] at a2
        refine ⟨c :: e, by rw [a1]; rfl, flat _ _ _ _ (by decide) (by decide), .mk a3 (by simp), fun l0 hf => ?_⟩
        show putO (some l0) (intB n) = _
        rw [a2, putO_fit hf]
    rw [if_neg hint] at h
    have lead : ∀ x : Nat, c.toNat = x → c = UInt8.ofNat x := fun x hx => by rw [← hx, ofNat_toNat]
    by_cases hx0 : c.toNat = 0xc0
    · rw [if_pos hx0] at h
      cases h
      obtain rfl := lead _ hx0
      exact ⟨[0xc0], rfl, flat _ _ _ _ (by decide) (by decide), .mk (by unfold in64; omega) (by simp), fun l0 hf => putO_fit hf⟩
    rw [if_neg hx0] at h
    by_cases hx1 : c.toNat = 0xc2
    · rw [if_pos hx1] at h
      cases h
      obtain rfl := lead _ hx1
      exact ⟨[0xc2], rfl, flat _ _ _ _ (by decide) (by decide), .mk (by unfold in64; omega) (by simp), fun l0 hf => putO_fit hf⟩
    rw [if_neg hx1] at h
    by_cases hx2 : c.toNat = 0xc3
    · rw [if_pos hx2] at h
      cases h
      obtain rfl := lead _ hx2
      exact ⟨[0xc3], rfl, flat _ _ _ _ (by decide) (by decide), .mk (by unfold in64; omega) (by simp), fun l0 hf => putO_fit hf⟩
    rw [if_neg hx2] at h
    by_cases hx3 : c.toNat = 0xc4
    · rw [if_pos hx3] at h
      obtain rfl := lead _ hx3
      cases h1 : bigR 1 l with
      | no c => rw [h1] at h; cases h
      | ok x r1 =>
        rw [h1, Rs.bind_ok] at h
        cases h2 : takeR x r1 with
        | no c => rw [h2] at h; cases h
        | ok b r2 =>
          rw [h2] at h
          cases h
          obtain ⟨g1, g2⟩ := bigR_inv h1
          obtain ⟨k1, k2⟩ := takeR_inv h2
          have g2 : x < 256 := g2
          subst k2
          refine ⟨0xc4 :: (bigB b.length 1 ++ b), by rw [g1, k1]; simp, flat _ _ _ _ (by decide) (by decide), .mk (by unfold in64; omega) (by simp), fun l0 hf => ?_⟩
          show blobO (some l0) b = _
          unfold blobO
          rw [if_pos (by omega), putO_fit hf]
    rw [if_neg hx3] at h
    by_cases hx4 : c.toNat = 0xc5
    · rw [if_pos hx4] at h
      obtain rfl := lead _ hx4
      cases h1 : leastR 2 256 l with
      | no c => rw [h1] at h; cases h
      | ok x r1 =>
        rw [h1, Rs.bind_ok] at h
        cases h2 : takeR x r1 with
        | no c => rw [h2] at h; cases h
        | ok b r2 =>
          rw [h2] at h
          cases h
          obtain ⟨g1, g2, g3⟩ := leastR_inv h1
          obtain ⟨k1, k2⟩ := takeR_inv h2
          have g2 : x < 65536 := g2
          subst k2
          refine ⟨0xc5 :: (bigB b.length 2 ++ b), by rw [g1, k1]; simp, flat _ _ _ _ (by decide) (by decide), .mk (by unfold in64; omega) (by simp), fun l0 hf => ?_⟩
          show blobO (some l0) b = _
          unfold blobO
          rw [if_neg (by omega), if_pos (by omega), putO_fit hf]
    rw [if_neg hx4] at h
    by_cases hx5 : c.toNat = 0xdc
    · rw [if_pos hx5] at h
      obtain rfl := lead _ hx5
      cases h1 : leastR 2 16 l with
      | no c => rw [h1] at h; cases h
      | ok x r1 =>
        rw [h1, Rs.bind_ok] at h
        cases h2 : listR (decV d) x r1 with
        | no c => rw [h2] at h; cases h
        | ok vs r2 =>
          rw [h2] at h
          cases h
          obtain ⟨g1, g2, g3⟩ := leastR_inv h1
          have g2 : x < 65536 := g2
          obtain ⟨f1, f2, e, f3, f4⟩ := list_of_read hd _ r1 vs r h2
          subst f1
          refine ⟨0xdc :: (bigB vs.length 2 ++ e), by rw [g1, f3]; simp, canF_mk (by decide) (by decide) (fun h => absurd h (by decide)) (fun _ v hv => (f2 v hv).1), .mk (by unfold in64; omega) (fun v hv => (f2 v hv).2), fun l0 hf => ?_⟩
          show vs.foldl (encO d) (manyO 0x90 0xdc (some l0) vs.length) = _
          unfold manyO
          rw [if_neg (by omega), if_pos (by omega), putO_fit (by simp at hf ⊢; omega), f4 _ (by simp at hf ⊢; omega)]
          simp
    rw [if_neg hx5] at h
    by_cases hx6 : c.toNat = 0xde
    · rw [if_pos hx6] at h
      obtain rfl := lead _ hx6
      cases h1 : leastR 2 16 l with
      | no c => rw [h1] at h; cases h
      | ok x r1 =>
        rw [h1, Rs.bind_ok] at h
        cases h2 : dictR (decV d) x none r1 with
        | no c => rw [h2] at h; cases h
        | ok ps r2 =>
          rw [h2] at h
          cases h
          obtain ⟨g1, g2, g3⟩ := leastR_inv h1
          have g2 : x < 65536 := g2
          obtain ⟨f1, f2, f3, _, e, f5, f6⟩ := dict_of_read hd _ none r1 ps r h2
          have hlen : (ps.map (·.2)).length = x := by rw [List.length_map]; exact f1
          subst hlen
          refine ⟨0xde :: (bigB (ps.map (·.2)).length 2 ++ e), by rw [g1, f5]; simp, canF_mk (by decide) (by decide) (fun _ => ⟨by simp, f3⟩) (fun _ v hv => (f2 v hv).1), .mk (by unfold in64; omega) (fun v hv => (f2 v hv).2), fun l0 hf => ?_⟩
          show ((ps.map (·.1)).zip (ps.map (·.2))).foldl (fun o x => encO d (textO o x.1) x.2) (manyO 0x80 0xde (some l0) (ps.map (·.2)).length) = _
          unfold manyO
          rw [if_neg (by omega), if_pos (by omega), putO_fit (by simp at hf ⊢; omega), zip_back, f6 _ (by simp at hf ⊢; omega)]
          simp
    rw [if_neg hx6] at h
    cases h
/-- What Decode reads, Encode writes again. -/
theorem encF_dec {l : List UInt8} {v : PV} (h : decF l = (v, 0)) : encF v = (l, 0) := by
  unfold decF at h
  split at h
  · simp at h
  · rename_i hl
    split at h
    · rename_i c hc
      have hc0 : c = 0 := by simpa using congrArg Prod.snd h
      subst hc0
      exact absurd hc (decV_no 16 l)
    · rename_i v2 r hv
      split at h
      · rename_i hr
        cases h
        subst hr
        obtain ⟨e, he, hc, _, ha⟩ := enc_dec 16 l v [] hv
        rw [List.append_nil] at he
        subst he
        have := ha [] (by simp; omega)
        unfold encF
        rw [if_neg (by rw [hc]; decide), this]; rfl
      · simp at h
end Go.Proofs.Ytakliplkabgmbaa
