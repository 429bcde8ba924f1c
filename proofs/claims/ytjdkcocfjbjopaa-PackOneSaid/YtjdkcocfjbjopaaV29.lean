/- Layer 05: the reader's dict. -/
import Derived.Test.YtjdkcocfjbjopaaV28
import Derived.Deep.CutBlock
set_option maxRecDepth 20000
namespace Go.Proofs.Ytjdkcocfjbjopaa
open Go.RowKit Go.Hd
attribute [local go_sem ↓] h_ldV h_stV h_alV h_bsV
attribute [local go_sem] r_ldV r_stV r_alV r_bsV

def byteR (l : List UInt8) : Rs Nat := match l with | [] => .no 3 | c :: r => .ok c.toNat r
theorem byteR_take (l : List UInt8) : byteR l = (takeR 1 l).bind fun b r => .ok (getL b) r := by
  unfold byteR takeR
  cases l with
  | nil => rfl
  | cons c r =>
    rw [if_neg (by simp)]
    simp [getL]
theorem rdnum_any {α : Type} {B gr g : Nat} {w : World} {s : Rs α} (h : PRs B w gr g s) :
    Calls Try.prog 44 #[.pointer (some ⟨g, 0, none⟩), .int .i64 1] w (NumP B gr g w 256 (s.bind fun _ r => byteR r)) := by
  obtain ⟨l, e, bad, h1, h2, h3, h4, h5⟩ := h
  obtain ⟨t1, t2, t3, t4, t5⟩ := took_st 1 h3
  have hR : (s.bind fun _ r => byteR r) = (s.bind fun _ r => takeR 1 r).bind fun b r => .ok (getL b) r := by
    cases s with
    | no c => rfl
    | ok x r => exact byteR_take r
  have hE : numE e 1 = e := by unfold numE; rw [if_neg (by omega)]
  have hn := num_any (n := 1) h2
  rw [hE] at hn
  refine hn.mono ?_
  rintro ee w1 ⟨rfl, hrd, hg⟩
  have hx : gV (rdGot l e 1) < 256 := by
    unfold gV
    split
    · have h6 := getL_lt (rdGot l e 1)
      have h7 : (rdGot l e 1).length ≤ 1 := t4
      exact Nat.lt_of_lt_of_le h6 (Nat.pow_le_pow_right (by decide) h7)
    · decide
  refine ⟨_, rfl, hx, fun x0 r hr => ?_, fun c hc => ?_, ?_, Dk.ofGrown hg (.inr rfl)⟩
  · rw [hR] at hr
    cases hT : (s.bind fun _ r => takeR 1 r) with
    | no c => rw [hT] at hr; cases hr
    | ok b r' =>
      rw [hT] at hr
      cases hr
      have hgot : rdGot l e 1 = b := t2 _ _ hT
      rw [hgot]
      have hbl : b.length = 1 := by
        cases s with
        | no c => cases hT
        | ok x r0 =>
          have hT : takeR 1 r0 = .ok b r := hT
          unfold takeR at hT
          split at hT
          · cases hT
          · cases hT; simp; omega
      unfold gV
      rw [if_pos (by omega)]
  · rw [hR] at hc
    cases hT : (s.bind fun _ r => takeR 1 r) with
    | no c' =>
      rw [hT] at hc
      cases hc
      rcases t5 _ hT with h | h
      · exact .inl h
      · right
        have h : rdGot l e 1 = [] := h
        rw [h]; rfl
    | ok b r' => rw [hT] at hc; cases hc
  · rw [hR]
    refine ⟨_, _, _, h1.grown hg h5, hrd, ?_, Nat.le_trans t3 h4, h5⟩
    cases hT : (s.bind fun _ r => takeR 1 r) with
    | no c' => rw [hT] at t1; exact t1
    | ok b r' => rw [hT] at t1; exact t1

abbrev PsL := List (List UInt8 × PV)
def lastK (ps : PsL) : Option (List UInt8) := ps.getLast?.map (·.1)
def restD (f : List UInt8 → Rs PV) (n : Nat) (T : Rs PsL) : Rs PsL := T.bind fun ps r => (dictR f n (lastK ps) r).bind fun qs r2 => .ok (ps ++ qs) r2
def stepD (f : List UInt8 → Rs PV) (T : Rs PsL) : Rs PsL := T.bind fun ps r => (keyR (lastK ps) r).bind fun k r2 => (f r2).bind fun v r3 => .ok (ps ++ [(k, v)]) r3
theorem restD_zero (f : List UInt8 → Rs PV) (T : Rs PsL) : restD f 0 T = T := by
  unfold restD
  cases T with
  | no c => rfl
  | ok vs r => simp [dictR]
theorem lastK_snoc (ps : PsL) (k : List UInt8) (v : PV) : lastK (ps ++ [(k, v)]) = some k := by unfold lastK; simp
theorem restD_succ (f : List UInt8 → Rs PV) (n : Nat) (T : Rs PsL) : restD f (n + 1) T = restD f n (stepD f T) := by
  unfold restD stepD
  cases T with
  | no c => rfl
  | ok ps r =>
    simp only [Rs.bind_ok, dictR]
    cases keyR (lastK ps) r with
    | no c => rfl
    | ok k r2 =>
      simp only [Rs.bind_ok]
      cases f r2 with
      | no c => rfl
      | ok v r3 =>
        simp only [Rs.bind_ok, lastK_snoc]
        cases dictR f n (some k) r3 with
        | no c => rfl
        | ok ws r4 => simp
theorem restD_no (f : List UInt8 → Rs PV) (n : Nat) (c : Int) : restD f n (.no c) = .no c := rfl
/-- The state of dict's loop. -/
structure DictJ {α : Type} (B gr g : Nat) (w wr : World) (uK uL : Value) (ks : List (List UInt8)) (vs : List PV) (S : Rs α) : Prop where
  res : Blk wr w.heap.size 26 zV.toList
  vb : VB (w.heap.size + 1) (w.heap.size + 1) wr (.mk 7 0 [] [] ks vs) (.slice none 0 0) uK uL
  st : PRs B wr gr g S
  dk : Dk gr g w wr
theorem DictJ.call {α β : Type} {B gr g : Nat} {w wr w2 : World} {uK uL : Value} {ks : List (List UInt8)} {vs : List PV} {S : Rs α} {S2 : Rs β} (h : DictJ B gr g w wr uK uL ks vs S) (h1 : gr < w.heap.size) (h2 : g < w.heap.size) (hP : PRs B w2 gr g S2) (hk : Dk gr g wr w2) : DictJ B gr g w w2 uK uL ks vs S2 :=
  ⟨hk.blk h.res (by omega) (by omega), h.vb.keep hk.size (fun b hb hlt => hk.block b hlt (by omega) (by omega)), hP, h.dk.trans hk⟩
theorem DictJ.cast {α β : Type} {B gr g : Nat} {w wr : World} {uK uL : Value} {ks : List (List UInt8)} {vs : List PV} {S : Rs α} {S2 : Rs β} (h : DictJ B gr g w wr uK uL ks vs S) (hc : ∀ l e bad, PRst S l e bad → PRst S2 l e bad) : DictJ B gr g w wr uK uL ks vs S2 := ⟨h.res, h.vb, h.st.cast hc, h.dk⟩
theorem DictJ.drew {α : Type} {B gr g : Nat} {w wr : World} {uK uL : Value} {ks : List (List UInt8)} {vs : List PV} {S : Rs α} (h : DictJ B gr g w wr uK uL ks vs S) : DictJ B gr g w wr.drew uK uL ks vs S :=
  ⟨h.res, h.vb.keep (Nat.le_refl _) (fun _ _ _ => rfl), h.st.keep (Gr.drewN wr 1), ⟨h.dk.os, h.dk.tape, h.dk.output, h.dk.size, h.dk.block⟩⟩
theorem DictJ.after {α : Type} {B gr g : Nat} {w wr w' : World} {uK uL u2 uK2 uL2 x : Value} {ks ks2 : List (List UInt8)} {vs vs2 : List PV} {S : Rs α} {i : Nat} (h : DictJ B gr g w wr uK uL ks vs S) (hB : B ≤ w.heap.size) (h1 : gr < w.heap.size) (h2 : g < w.heap.size) (hg : Gro wr w' uK u2 ∨ Gro wr w' uL u2)
    (hv : VB (w.heap.size + 1) (w.heap.size + 1) (w'.setCell ⟨w.heap.size + 1, i, none⟩ x) (.mk 7 0 [] [] ks2 vs2) (.slice none 0 0) uK2 uL2) : DictJ B gr g w (w'.setCell ⟨w.heap.size + 1, i, none⟩ x) uK2 uL2 ks2 vs2 S := by
  have hk := h.vb.kown
  have hs : w'.grownBy (w'.setCell ⟨w.heap.size + 1, i, none⟩ x) (some (w.heap.size + 1)) := grown_set (World.grownBy.refl _ _) _ _
  have key : ∀ {u : Value}, (∀ b, u.ownBlock = some b → w.heap.size + 1 ≤ b ∧ b < wr.heap.size) → wr.grownBy w' u.ownBlock → DictJ B gr g w (w'.setCell ⟨w.heap.size + 1, i, none⟩ x) uK2 uL2 ks2 vs2 S := by
    intro u hu hgr
    refine ⟨?_, hv, (h.st.far hgr (fun k hk => by have := (hu k hk).1; exact ⟨by omega, by omega, by omega⟩)).far hs (fun k hk => by cases hk; exact ⟨by omega, by omega, by omega⟩), ?_⟩
    · exact (h.res.keptBy hgr (fun e => by have := (hu _ e).1; omega)).grown hs (by omega)
    · refine ⟨hgr.os.trans h.dk.os, hgr.tape.trans h.dk.tape, hgr.output.trans h.dk.output, Nat.le_trans h.dk.size (by simpa using hgr.size), fun k hk1 g1 g2 => ?_⟩
      have hws := h.dk.size
      rw [hs.block k (by have := hgr.size; omega) (by simp; omega), hgr.block k (by omega) (fun e => by have := (hu k e.symm).1; omega)]
      exact h.dk.block k hk1 g1 g2
  rcases hg with hg | hg
  · exact key hk.1 hg.gr
  · exact key hk.2 hg.gr
theorem keyR_byte (prev : Option (List UInt8)) (l : List UInt8) : keyR prev l = (byteR l).bind fun c r => if isText c = false then .no 4 else (textR c r).bind fun k r2 => if (match prev with | none => false | some p => leT k p) = true then .no 4 else .ok k r2 := by
  cases l <;> rfl
end Go.Proofs.Ytjdkcocfjbjopaa
