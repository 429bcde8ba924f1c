/- Walks of layer 8: the reader of blocks. -/
import Derived.Test.YtpkgcnklpnficaaZ6
import Derived.Test.YtpkgcnklpnficaaW7
namespace Go.Proofs.Ytpkgcnklpnficaa
open Go.RowKit Go.Hd

/-- The reader of a block: l is left, e the error, out what was told. -/
def LzAt (w : World) (gr g : Nat) (most : Int) (l : List UInt8) (e : Int) (out : List UInt8) : Prop :=
  g < gr ∧ RdAt gr w g l e ∧ ∃ v, Buf (gr + 1) w gr 69 5 [.pointer (some ⟨g, 0, none⟩), v, .int .i64 most] v out
theorem LzAt_num {w w' : World} {gr g : Nat} {most : Int} {l l' : List UInt8} {e e' : Int} {out : List UInt8} (h : LzAt w gr g most l e out) (h' : RdAt gr w' g l' e') (hg : w.grownBy w' (some g)) : LzAt w' gr g most l' e' out ∧ Below g w w' := by
  obtain ⟨h1, h2, v, h3⟩ := h
  exact ⟨⟨h1, h', v, h3.far hg (by omega) (by omega)⟩, Below.grown (Below.refl _ _) hg (Nat.le_of_lt h2.lt) (fun k hk => by cases hk; exact Nat.le_refl _)⟩
theorem got1 (c : UInt8) (l : List UInt8) : gV (rdGot (c :: l) (numE 0 1) 1) = c.toNat ∧ rdRest (c :: l) (numE 0 1) 1 = l ∧ rdErr (c :: l) (numE 0 1) 1 = 0 := by
  have e : numE 0 1 = 0 := by decide
  have h : ¬ ((0 : Int) ≠ 0 ∨ (1 : Int) < 0 ∨ (((c :: l).length : Nat) : Int) < 1) := by simp; omega
  rw [e]
  refine ⟨?_, ?_, ?_⟩
  · unfold rdGot
    rw [if_neg h]
    simp [gV, getL]
  · unfold rdRest
    rw [if_neg h]; rfl
  · unfold rdErr
    rw [if_neg (by decide), if_neg (by decide), if_neg (by simp; omega)]
theorem got0 : gV (rdGot [] (numE 0 1) 1) = 0 ∧ rdRest [] (numE 0 1) 1 = [] ∧ rdErr [] (numE 0 1) 1 = 3 := by decide
/-- What length answers. -/
def LnPost (w : World) (gr g : Nat) (most : Int) (out : List UInt8) (R : Option (Nat × List UInt8)) (r : Ending) (w' : World) : Prop :=
  Below g w w' ∧ match R with
  | some (m, l') => r = .returned (.int .i64 (m : Int)) ∧ LzAt w' gr g most l' 0 out
  | none => ∃ (v : Nat) (l' : List UInt8), r = .returned (.int .i64 (v : Int)) ∧ LzAt w' gr g most l' 3 out ∧ l'.length ≤ 100000
def LnLoop (w : World) (gr g : Nat) (most : Int) (out l : List UInt8) (R : Option (Nat × List UInt8)) (n : Value) (wr : World) : Prop :=
  ∃ (l1 : List UInt8) (s : Nat), n = .int .i64 s ∧ extR l1 s = R ∧ LzAt wr gr g most l1 0 out ∧ Below g w wr ∧ s + 255 * l1.length ≤ 15 + 255 * l.length
theorem rlength_small {w : World} {gr k : Nat} {x : Int} (hx : x = (k : Int)) (hk : k < 15) : Calls Try.prog 43 #[.pointer (some ⟨gr, 0, none⟩), .int .i64 x] w fun r w' => r = .returned (.int .i64 (k : Int)) ∧ w = w' := by
  subst hx
  have hI : (k : Int) < 15 := by omega
  go_enter Try.func43, Try.ntmps43
  go_wp2
  go_ret
  exact ⟨rfl, rfl⟩
set_option maxRecDepth 10000 in
theorem rlength_any {w : World} {gr g k : Nat} {most x : Int} {l out : List UInt8} (hx : x = (k : Int)) (h : LzAt w gr g most l 0 out) (hk : k < 16) (hl : l.length ≤ 100000) :
    Calls Try.prog 43 #[.pointer (some ⟨gr, 0, none⟩), .int .i64 x] w (LnPost w gr g most out (extRd l k)) := by
  by_cases h15 : k < 15
  · refine (rlength_small hx h15).mono ?_
    rintro r w' ⟨rfl, rfl⟩
    refine ⟨Below.refl _ _, ?_⟩
    unfold extRd
    rw [if_pos h15]
    exact ⟨rfl, h⟩
  · obtain rfl : k = 15 := by omega
    obtain rfl : x = 15 := hx
    obtain ⟨R, hR⟩ : ∃ R, R = extRd l 15 := ⟨_, rfl⟩
    have hR0 : extR l 15 = R := by rw [hR]; rfl
    rw [← hR]
    clear hR
    go_enter Try.func43, Try.ntmps43
    go_wp2
    go_loopw [1, 5] (fun n _ wr => LnLoop w gr g most out l R n wr) (fun n _ _ => 20 + 255 * l.length - (intOf n).toNat)
    case atStart => exact ⟨l, 15, rfl, hR0, h, Below.refl _ _, by omega⟩
    case round =>
      clear hR0 h
      obtain ⟨l1, s, rfl, hR, hat, hb, hs⟩ := hrel
      have hat' := hat
      obtain ⟨hgg, hrd, v, hB⟩ := hat'
      have c0 : wr.cell? ⟨gr, 0, none⟩ = _ := hB.blk.cell rfl
      cases l1 with
      | nil =>
        obtain ⟨e1, e2, e3⟩ := got0
        have HE : Hid (R = none) := hR.symm
        clear hR
        go_wp2_with fail
        refine (num_any hrd).mono ?_
        rintro e w2 ⟨rfl, hrd2, hg2⟩
        rw [e2, e3] at hrd2
        rw [e1]
        obtain ⟨hat2, hb2⟩ := LzAt_num hat hrd2 hg2
        clear e1 e2 e3 hat hrd hB c0
        go_wp2
        go_ret
        refine ⟨hb.trans hb2, ?_⟩
        rw [HE.out]
        exact ⟨s, [], by simp, hat2, by simp⟩
      | cons ch l2 =>
        have G1 := Lib.hid (got1 ch l2)
        have hcb : (ch.toNat : Int) ≤ 255 := u8_le ch
        have hs' : s + 255 * l2.length + 255 ≤ 15 + 255 * l.length := by rw [List.length_cons] at hs; omega
        have hsb : (s : Int) ≤ 100000000 := by omega
        have HS := Lib.hid hs'
        clear hs hs'
        go_wp2_with fail
        refine (num_any hrd).mono ?_
        rintro e w2 ⟨rfl, hrd2, hg2⟩
        obtain ⟨e1, e2, e3⟩ := G1.out
        rw [e2, e3] at hrd2
        rw [e1]
        obtain ⟨hat2, hb2⟩ := LzAt_num hat hrd2 hg2
        have hb3 := hb.trans hb2
        clear e1 e2 e3 hat hrd hB c0 hb hb2
        by_cases h255 : ch.toNat < 255
        · have hI : (ch.toNat : Int) < 255 := by omega
          have HE : Hid (R = some (s + ch.toNat, l2)) := by
            show _ = _
            rw [← hR, extR, if_pos h255]
          clear hR
          go_wp2
          go_ret
          refine ⟨hb3, ?_⟩
          rw [HE.out]
          exact ⟨by simp, hat2⟩
        · have hI : ¬ (ch.toNat : Int) < 255 := by omega
          have hE255 : ch.toNat = 255 := by have := ch.toNat_lt; omega
          have HE : Hid (extR l2 (s + 255) = R) := by
            show _ = _
            rw [← hR]
            conv => rhs; rw [extR, if_neg h255]
          have H255 := Lib.hid hE255
          have hat2' := hat2
          obtain ⟨_, hrd4, v4, hB4⟩ := hat2'
          have c4 : w2.cell? ⟨gr, 0, none⟩ = _ := hB4.blk.cell rfl
          clear hR hE255 hrd2 hB4
          go_wp2_with fail
          refine (err_any hrd4).mono ?_
          rintro e w3 ⟨rfl, rfl⟩
          clear c4 hrd4
          go_wp2
          have hr : LnLoop w gr g most out l R (.int .i64 ((s + 255 : Nat) : Int)) w2 := ⟨l2, s + 255, rfl, HE.out, hat2, hb3, by have := HS.out; omega⟩
          have e9 : Value.int .i64 ((s : Int) + (ch.toNat : Int)) = .int .i64 ((s + 255 : Nat) : Int) := by have := H255.out; rw [this]; simp
          have hm : 20 + 255 * l.length - (intOf (Value.int .i64 ((s : Int) + (ch.toNat : Int)))).toNat < 20 + 255 * l.length - (intOf (Value.int .i64 (s : Int))).toNat := by
            have := H255.out
            have := HS.out
            simp only [intOf]
            omega
          first
            | exact ⟨by rw [e9]; exact hr, hm⟩
            | (refine ⟨?_, hm⟩; (repeat apply Exists.intro); exact ⟨by rw [e9]; exact hr, rfl⟩)
end Go.Proofs.Ytpkgcnklpnficaa
