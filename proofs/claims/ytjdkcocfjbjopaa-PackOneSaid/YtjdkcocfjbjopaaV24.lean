/- Layer 05: the reader's state, its numbers. -/
import Derived.Test.YtjdkcocfjbjopaaV17
import Derived.Test.YtjdkcocfjbjopaaPlD
import Derived.Test.YtjdkcocfjbjopaaW7
set_option maxRecDepth 20000
namespace Go.Proofs.Ytjdkcocfjbjopaa
open Go.RowKit Go.Hd

/-- A state as the document has it, and the reader's own: bytes left, error, bad. -/
def PRst {α : Type} (s : Rs α) (l : List UInt8) (e : Int) (bad : Bool) : Prop := match s with
  | .ok _ r => l = r ∧ e = 0 ∧ bad = false
  | .no c => (bad = true ∧ c = 4) ∨ (bad = false ∧ e = c ∧ c ≠ 0)
def PRs {α : Type} (B : Nat) (w : World) (gr g : Nat) (s : Rs α) : Prop := ∃ l e bad, Blk w gr 63 [.pointer (some ⟨g, 0, none⟩), .bool bad] ∧ RdAt B w g l e ∧ PRst s l e bad ∧ l.length ≤ 65536 ∧ gr ≠ g
/-- What reading may change: the reader's two blocks. -/
structure Dk (gr g : Nat) (w w' : World) : Prop where
  os : w'.os = w.os
  tape : w'.tape = w.tape
  output : w'.output = w.output
  size : w.heap.size ≤ w'.heap.size
  block : ∀ k, k < w.heap.size → k ≠ gr → k ≠ g → w'.heap[k]? = w.heap[k]?
theorem Dk.refl (gr g : Nat) (w : World) : Dk gr g w w := ⟨rfl, rfl, rfl, Nat.le_refl _, fun _ _ _ _ => rfl⟩
theorem Dk.trans {gr g : Nat} {a b c : World} (h : Dk gr g a b) (k : Dk gr g b c) : Dk gr g a c :=
  ⟨k.os.trans h.os, k.tape.trans h.tape, k.output.trans h.output, Nat.le_trans h.size k.size, fun i hi h1 h2 => (k.block i (Nat.lt_of_lt_of_le hi h.size) h1 h2).trans (h.block i hi h1 h2)⟩
theorem Dk.ofBelow {gr g : Nat} {a b : World} (h : Below a.heap.size a b) : Dk gr g a b := ⟨h.os, h.tape, h.output, h.size, fun i hi _ _ => h.block i hi⟩
theorem Dk.ofGrown {gr g q : Nat} {a b : World} (h : a.grownBy b (some q)) (hq : q = gr ∨ q = g) : Dk gr g a b := ⟨h.os, h.tape, h.output, h.size, fun i hi h1 h2 => h.block i hi (by simp; omega)⟩
theorem Dk.below {gr g base : Nat} {a b : World} (h : Dk gr g a b) (hb : base ≤ a.heap.size) (h1 : base ≤ gr) (h2 : base ≤ g) : Below base a b := ⟨h.os, h.tape, h.output, h.size, fun i hi => h.block i (by omega) (by omega) (by omega)⟩
theorem Dk.drew {gr g : Nat} {a b : World} (h : Dk gr g a.drew b) : Dk gr g a b := ⟨h.os, h.tape, h.output, h.size, h.block⟩
theorem PRs.keep {α : Type} {B gr g : Nat} {w w' : World} {s : Rs α} (h : PRs B w gr g s) (hb : Below w.heap.size w w') : PRs B w' gr g s := by
  obtain ⟨l, e, bad, h1, h2, h3, h4, h5⟩ := h
  exact ⟨l, e, bad, h1.below hb, h2.keep hb, h3, h4, h5⟩
/-- The reader stays where other memory is written. -/
theorem PRs.far {α : Type} {B gr g : Nat} {w w' : World} {s : Rs α} (h : PRs B w gr g s) {r : Option Nat} (hg : w.grownBy w' r) (hr : ∀ k, r = some k → B ≤ k ∧ k ≠ g ∧ k ≠ gr) : PRs B w' gr g s := by
  obtain ⟨l, e, bad, h1, h2, h3, h4, h5⟩ := h
  exact ⟨l, e, bad, h1.keptBy hg (fun e => (hr gr e).2.2 rfl), h2.keptOwn hg (fun k hk => ⟨(hr k hk).1, (hr k hk).2.1⟩), h3, h4, h5⟩
theorem PRs.lt {α : Type} {B gr g : Nat} {w : World} {s : Rs α} (h : PRs B w gr g s) : gr < w.heap.size ∧ g < w.heap.size := by
  obtain ⟨l, e, bad, h1, h2, _⟩ := h
  exact ⟨h1.lt, h2.lt⟩
theorem PRs.ptr {α : Type} {B gr g : Nat} {w : World} {s : Rs α} (h : PRs B w gr g s) : w.cell? ⟨gr, 0, none⟩ = some (.pointer (some ⟨g, 0, none⟩)) := by
  obtain ⟨l, e, bad, h1, _⟩ := h; exact h1.cell rfl
theorem PRs.cast {α β : Type} {B gr g : Nat} {w : World} {s : Rs α} {s' : Rs β} (h : PRs B w gr g s) (hs : ∀ l e bad, PRst s l e bad → PRst s' l e bad) : PRs B w gr g s' := by
  obtain ⟨l, e, bad, h1, h2, h3, h4, h5⟩ := h
  exact ⟨l, e, bad, h1, h2, hs _ _ _ h3, h4, h5⟩
/-- The field is set: the reader is bad. -/
theorem PRs.bad {α β : Type} {B gr g : Nat} {w : World} {s : Rs α} (h : PRs B w gr g s) : PRs B (w.setCell ⟨gr, 1, none⟩ (.bool true)) gr g (.no 4 : Rs β) ∧ Dk gr g w (w.setCell ⟨gr, 1, none⟩ (.bool true)) ∧ w.frozen? ⟨gr, 1, none⟩ = false ∧ (∃ z, w.cell? ⟨gr, 1, none⟩ = some (.bool z)) := by
  obtain ⟨l, e, bad, h1, h2, h3, h4, h5⟩ := h
  have hg : w.grownBy (w.setCell ⟨gr, 1, none⟩ (.bool true)) (some gr) := grown_set (World.grownBy.refl _ _) _ _
  refine ⟨⟨l, e, true, h1.set 1 (.bool true), ?_, .inl ⟨rfl, rfl⟩, h4, h5⟩, Dk.ofGrown hg (.inl rfl), h1.free 1, bad, h1.cell rfl⟩
  obtain ⟨a, c, k1, k2, k3, k4, k5⟩ := h2
  refine ⟨a, c, k1.grown hg (Ne.symm h5), Row.grown k2 hg (fun h0 => ?_), k3, k4, k5⟩
  refine Blk.apart h1 (fun i n => ?_) k2 (by simpa using h0)
  match i with
  | 0 => simp
  | 1 => simp
  | i + 2 => simp
theorem took_st {α : Type} {s : Rs α} {l : List UInt8} {e : Int} {bad : Bool} (n : Nat) (h : PRst s l e bad) : PRst (s.bind fun _ r => takeR n r) (rdRest l e n) (rdErr l e n) bad ∧ (∀ b r, (s.bind fun _ r => takeR n r) = .ok b r → rdGot l e n = b) ∧ (rdRest l e n).length ≤ l.length ∧ (rdGot l e n).length ≤ n ∧ (∀ c, (s.bind fun _ r => takeR n r) = .no c → c = 4 ∨ rdGot l e n = []) := by
  have hlen : (rdRest l e n).length ≤ l.length := by unfold rdRest; split <;> simp
  have hgl : (rdGot l e n).length ≤ n := by unfold rdGot; split <;> simp; omega
  cases s with
  | ok x r =>
    obtain ⟨rfl, rfl, rfl⟩ := h
    refine ⟨?_, ?_, hlen, hgl, fun c hc => .inr ?_⟩
    · show PRst (takeR n l) _ _ _
      unfold takeR
      by_cases hl : l.length < n
      · have e1 : rdRest l 0 n = l := by unfold rdRest; rw [if_pos (by omega)]
        have e2 : rdErr l 0 n = 3 := by unfold rdErr; rw [if_neg (by simp), if_neg (by omega), if_pos (by omega)]
        rw [if_pos hl, e1, e2]
        exact .inr ⟨rfl, rfl, by decide⟩
      · have e1 : rdRest l 0 n = l.drop n := by unfold rdRest; rw [if_neg (by omega), Int.toNat_natCast]
        have e2 : rdErr l 0 n = 0 := by unfold rdErr; rw [if_neg (by simp), if_neg (by omega), if_neg (by omega)]
        rw [if_neg hl, e1, e2]
        exact ⟨rfl, rfl, rfl⟩
    · intro b r hb
      have hb : takeR n l = .ok b r := hb
      unfold takeR at hb
      split at hb
      · cases hb
      · rename_i hl
        cases hb
        unfold rdGot
        rw [if_neg (by simp; omega)]; simp
    · have hc : takeR n l = .no c := hc
      unfold takeR at hc
      split at hc
      · rename_i hl
        unfold rdGot
        rw [if_pos (by omega)]
      · cases hc
  | no c =>
    rcases h with ⟨rfl, rfl⟩ | ⟨rfl, rfl, hc⟩
    · exact ⟨.inl ⟨rfl, rfl⟩, (fun b r hb => by cases hb), hlen, hgl, fun c hc => by cases hc; exact .inl rfl⟩
    · refine ⟨.inr ⟨rfl, ?_, hc⟩, (fun b r hb => by cases hb), hlen, hgl, fun c _ => .inr ?_⟩
      · unfold rdErr
        rw [if_pos hc]
      · unfold rdGot
        rw [if_pos (.inl hc)]

theorem Rs.isNo_ok {α : Type} (x : α) (r : List UInt8) : (Rs.ok x r).isNo = false := rfl
theorem Rs.isNo_no {α : Type} (c : Int) : (Rs.no c : Rs α).isNo = true := rfl
theorem failed_any {α : Type} {B gr g : Nat} {w : World} {s : Rs α} (h : PRs B w gr g s) :
    Calls Try.prog 45 #[.pointer (some ⟨gr, 0, none⟩)] w fun e w' => e = .returned (.bool s.isNo) ∧ w = w' := by
  obtain ⟨l, e, bad, h1, h2, h3, h4, h5⟩ := h
  have c0 : w.cell? ⟨gr, 0, none⟩ = some (.pointer (some ⟨g, 0, none⟩)) := h1.cell rfl
  have c1 : w.cell? ⟨gr, 1, none⟩ = some (.bool bad) := h1.cell rfl
  have he := err_any h2
  cases bad with
  | true =>
    have HB : Hid (s.isNo = true) := by
      cases s with
      | ok x r => obtain ⟨_, _, h⟩ := h3; cases h
      | no c => rfl
    go_enter Try.func45, Try.ntmps45
    go_wp2
    go_ret
    exact ⟨by rw [HB.out]; rfl, rfl⟩
  | false =>
    cases s with
    | ok x r =>
      obtain ⟨rfl, rfl, _⟩ := h3
      go_enter Try.func45, Try.ntmps45
      go_wp2_with fail
      refine he.mono ?_
      rintro e w' ⟨rfl, rfl⟩
      go_wp2
      go_ret
      exact ⟨rfl, rfl⟩
    | no c =>
      rcases h3 with ⟨h, _⟩ | ⟨_, rfl, hc⟩
      · cases h
      · have hne : (e != 0) = true := by simpa using hc
        go_enter Try.func45, Try.ntmps45
        go_wp2_with fail
        refine he.mono ?_
        rintro e w' ⟨rfl, rfl⟩
        go_wp2
        go_ret
        exact ⟨rfl, rfl⟩
/-- What a reading of a number answers. -/
def NumP (B gr g : Nat) (w : World) (lim : Nat) (R : Rs Nat) (e : Ending) (w' : World) : Prop :=
  ∃ x : Nat, e = .returned (.int .u64 (x : Int)) ∧ x < lim ∧ (∀ x0 r, R = .ok x0 r → x = x0) ∧ (∀ c, R = .no c → c = 4 ∨ x = 0) ∧ PRs B w' gr g R ∧ Dk gr g w w'
theorem getL_lim {l : List UInt8} {n : Nat} (h : l.length ≤ n) (_h8 : n ≤ 8) : getL l.reverse < 256 ^ n := by
  have h1 := getL_lt l.reverse
  rw [List.length_reverse] at h1
  exact Nat.lt_of_lt_of_le h1 (Nat.pow_le_pow_right (by decide) h)
set_option maxHeartbeats 1000000 in
theorem rdbig_any {α : Type} {B gr g n : Nat} {w : World} {s : Rs α} (h : PRs B w gr g s) (h1n : 1 ≤ n) (h8 : n ≤ 8) :
    Calls Try.prog 52 #[.pointer (some ⟨gr, 0, none⟩), .int .i64 (n : Int)] w (NumP B gr g w (256 ^ n) (s.bind fun _ r => bigR n r)) := by
  have c0 := h.ptr
  obtain ⟨l, e, bad, h1, h2, h3, h4, h5⟩ := h
  obtain ⟨t1, t2, t3, t4, t5⟩ := took_st n h3
  have hby := bytes_any (n := (n : Int)) h2 (by omega)
  have HR : Hid ((s.bind fun _ r => bigR n r) = (s.bind fun _ r => takeR n r).bind fun b r => .ok (getL b.reverse) r) := by
    show _ = _
    cases s <;> rfl
  generalize rdGot l e n = G at *
  generalize rdRest l e n = r1 at *
  generalize rdErr l e n = e1 at *
  generalize (s.bind fun _ r => takeR n r) = T at *
  generalize (s.bind fun _ r => bigR n r) = R at *
  have HL := Lib.hid t4
  have HN := Lib.hid (And.intro h1n h8)
  clear t4 h1n h8
  go_enter Try.func52, Try.ntmps52
  go_wp2_with fail
  refine hby.mono ?_
  rintro ee w1 ⟨v, rfl, hown, hrd, hg⟩
  obtain ⟨a, c, rfl, hc, hm, hr, _⟩ := Own.at (E := 5) hown
  have hB1 := h1.grown hg h5
  have hP : PRs B w1 gr g T := ⟨_, _, _, hB1, hrd, t1, by omega, h5⟩
  have hk : Dk gr g w w1 := Dk.ofGrown hg (.inr rfl)
  by_cases h0 : G.length < 1
  · have hgb := getbig_none a G.length c w1 (.inl h0)
    go_wp2_with fail
    refine hgb.mono ?_
    rintro ee w2 ⟨rfl, rfl⟩
    go_wp2
    go_ret
    refine ⟨0, rfl, Nat.pow_pos (by decide), fun x0 r hx => ?_, fun _ _ => .inr rfl, ?_, hk⟩
    · rw [HR.out] at hx
      cases hT : T with
      | ok b r' =>
        rw [hT] at hx
        cases hx
        have := t2 _ _ hT
        subst this
        have : G = [] := List.eq_nil_of_length_eq_zero (by omega)
        rw [this]; rfl
      | no c => rw [hT] at hx; cases hx
    · rw [HR.out]
      refine hP.cast (fun l e bad hh => ?_)
      cases T <;> exact hh
  · have hgb := getbig_any a G.length c G w1 rfl hr (by omega) (Nat.le_trans HL.out HN.out.2)
    go_wp2_with fail
    refine hgb.mono ?_
    rintro ee w2 ⟨rfl, rfl⟩
    go_wp2
    go_ret
    refine ⟨_, rfl, getL_lim HL.out HN.out.2, fun x0 r hx => ?_, fun c hc => ?_, ?_, hk⟩
    · rw [HR.out] at hx
      cases hT : T with
      | ok b r' =>
        rw [hT] at hx
        cases hx
        rw [t2 _ _ hT]
      | no c => rw [hT] at hx; cases hx
    · rw [HR.out] at hc
      cases hT : T with
      | ok b r' => rw [hT] at hc; cases hc
      | no c' =>
        rw [hT] at hc
        cases hc
        rcases t5 _ hT with h | h
        · exact .inl h
        · rw [h] at h0; simp at h0
    · rw [HR.out]
      refine hP.cast (fun l e bad hh => ?_)
      cases T <;> exact hh
end Go.Proofs.Ytjdkcocfjbjopaa
