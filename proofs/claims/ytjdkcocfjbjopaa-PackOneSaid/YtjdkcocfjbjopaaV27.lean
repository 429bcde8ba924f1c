/- Layer 05: the reader's text. -/
import Derived.Test.YtjdkcocfjbjopaaV26
import Derived.Deep.RegionHeld3
set_option maxRecDepth 20000
namespace Go.Proofs.Ytjdkcocfjbjopaa
open Go.RowKit Go.Hd

/-- What a reading of a text answers. -/
def TxtP (B gr g : Nat) (w : World) (R : Rs (List UInt8)) (e : Ending) (w' : World) : Prop :=
  ∃ t : List UInt8, e = .returned (.tuple #[.string (str t), .bool true]) ∧ t.length ≤ 65536 ∧ (∀ t0 r, R = .ok t0 r → t = t0) ∧ PRs B w' gr g R ∧ Dk gr g w w'
theorem rdtake_any {α : Type} {B gr g n : Nat} {w : World} {s : Rs α} (h : PRs B w gr g s) (hn : n ≤ 65536) :
    Calls Try.prog 63 #[.pointer (some ⟨g, 0, none⟩), .int .i64 (n : Int)] w fun e w' => ∃ t : List UInt8, e = .returned (.string (str t)) ∧ t.length ≤ 65536 ∧ (∀ t0 r, (s.bind fun _ r => takeR n r) = .ok t0 r → t = t0) ∧ PRs B w' gr g (s.bind fun _ r => takeR n r) ∧ Dk gr g w w' := by
  obtain ⟨l, e, bad, h1, h2, h3, h4, h5⟩ := h
  obtain ⟨t1, t2, t3, t4, _⟩ := took_st n h3
  refine (text_any (n := (n : Int)) h2).mono ?_
  rintro ee w1 ⟨rfl, hrd, hg⟩
  exact ⟨_, rfl, by omega, t2, ⟨_, _, _, h1.grown hg h5, hrd, t1, by omega, h5⟩, Dk.ofGrown hg (.inr rfl)⟩
theorem and31 : ∀ c : Nat, c < 256 → bits BinOp.and IntKind.u8 (c : Int) 31 = ((c % 32 : Nat) : Int) := by
  intro c hc
  have h : ∀ k : Fin 256, bits BinOp.and IntKind.u8 (k.val : Int) 31 = ((k.val % 32 : Nat) : Int) := by decide
  exact h ⟨c, hc⟩
theorem and15 : ∀ c : Nat, c < 256 → bits BinOp.and IntKind.u8 (c : Int) 15 = ((c % 16 : Nat) : Int) := by
  intro c hc
  have h : ∀ k : Fin 256, bits BinOp.and IntKind.u8 (k.val : Int) 15 = ((k.val % 16 : Nat) : Int) := by decide
  exact h ⟨c, hc⟩
set_option maxHeartbeats 1000000 in
theorem rdtext_yes {α : Type} {B gr g c : Nat} {w : World} {s : Rs α} (h : PRs B w gr g s) (hc : c < 256) (ht : isText c = true) :
    Calls Try.prog 46 #[.pointer (some ⟨gr, 0, none⟩), .int .u8 (c : Int)] w (TxtP B gr g w (s.bind fun _ r => textR c r)) := by
  have c0 := h.ptr
  by_cases h5 : c / 32 = 5
  · have HR : Hid ((s.bind fun _ r => textR c r) = s.bind fun _ r => takeR (c % 32) r) := by
      show _ = _
      congr 1; funext _ r
      unfold textR; rw [if_pos h5]
    have htk := rdtake_any (n := c % 32) h (by omega)
    have ec : ((c % 32 : Nat) : Int) = (c : Int) % 32 := by omega
    rw [ec] at htk
    have ha := and31 c hc
    have e5 : (c : Int) / 32 = 5 := by omega
    have HT := Lib.hid ht
    clear hc ht h5 ec
    go_enter Try.func46, Try.ntmps46
    go_wp2_with fail
    refine htk.mono ?_
    rintro ee w1 ⟨t, rfl, h1, h2, h3, h4⟩
    go_wp2
    go_ret2
    rw [HR.out]
    exact ⟨t, rfl, h1, h2, h3, h4⟩
  · have e5 : ((c : Int) / 32 == 5) = false := by simp; omega
    by_cases h9 : c = 0xd9
    · subst h9
      have HR : Hid ((s.bind fun _ r => textR 217 r) = (s.bind fun _ r => leastR 1 32 r).bind fun n r => takeR n r) := by
        show _ = _
        cases s <;> rfl
      have hrd := rdleast_any (n := 1) (lo := 32) (w := w.drew) (h.keep (Gr.drewN w 1)) (by decide) (by decide) (by decide)
      generalize (s.bind fun _ r => leastR 1 32 r) = T at *
      clear h5 hc ht
      go_enter Try.func46, Try.ntmps46
      go_wp2
      go_region_held3 (fun w' => w'.cell? ⟨gr, 0, none⟩ = some (.pointer (some ⟨g, 0, none⟩))) (first | go_keep | assumption) (first
        | (go_at_call 53; refine hrd.mono ?_; rintro e3 w3 ⟨x, rfl, hx, hx0, hxn, hP, hk⟩; have c3 := hP.ptr; have ex : IntKind.i64.wrap (x : Int) = (x : Int) := IntWalk.i64_in _ (by have : x < 256 := hx; omega); have htk := rdtake_any (n := x) hP (by have : x < 256 := hx; omega))
        | (go_at_call 63; refine htk.mono ?_; rintro e4 w4 ⟨t, rfl, g1, g2, g3, g4⟩; have c4 := g3.ptr))
      have HF : Hid (TxtP B gr g w (s.bind fun _ r => textR 217 r) (.returned (.tuple #[.string (str t), .bool true])) w4) := by
        show TxtP _ _ _ _ _ _ _
        rw [HR.out]
        have hbb : (T.bind fun n r => takeR n r) = (T.bind fun _ r => takeR x r) := by
          cases T with
          | no c => rfl
          | ok x0 r => rw [hx0 _ _ rfl]; rfl
        rw [hbb]
        exact ⟨t, rfl, g1, g2, g3, (hk.trans g4).drew⟩
      clear hx0 hxn hP hk g1 g2 g3 g4 htk hx
      go_wp2
      go_ret2
      exact HF.out
    · have hda : c = 0xda := by
        unfold isText at ht
        simp at ht; omega
      subst hda
      have HR : Hid ((s.bind fun _ r => textR 218 r) = (s.bind fun _ r => leastR 2 256 r).bind fun n r => takeR n r) := by
        show _ = _
        cases s <;> rfl
      have hrd := rdleast_any (n := 2) (lo := 256) (w := w.drew) (h.keep (Gr.drewN w 1)) (by decide) (by decide) (by decide)
      generalize (s.bind fun _ r => leastR 2 256 r) = T at *
      clear h5 h9 hc ht
      go_enter Try.func46, Try.ntmps46
      go_wp2
      go_region_held3 (fun w' => w'.cell? ⟨gr, 0, none⟩ = some (.pointer (some ⟨g, 0, none⟩))) (first | go_keep | assumption) (first
        | (go_at_call 53; refine hrd.mono ?_; rintro e3 w3 ⟨x, rfl, hx, hx0, hxn, hP, hk⟩; have c3 := hP.ptr; have ex : IntKind.i64.wrap (x : Int) = (x : Int) := IntWalk.i64_in _ (by have : x < 65536 := hx; omega); have htk := rdtake_any (n := x) hP (by have : x < 65536 := hx; omega))
        | (go_at_call 63; refine htk.mono ?_; rintro e4 w4 ⟨t, rfl, g1, g2, g3, g4⟩; have c4 := g3.ptr))
      have HF : Hid (TxtP B gr g w (s.bind fun _ r => textR 218 r) (.returned (.tuple #[.string (str t), .bool true])) w4) := by
        show TxtP _ _ _ _ _ _ _
        rw [HR.out]
        have hbb : (T.bind fun n r => takeR n r) = (T.bind fun _ r => takeR x r) := by
          cases T with
          | no c => rfl
          | ok x0 r => rw [hx0 _ _ rfl]; rfl
        rw [hbb]
        exact ⟨t, rfl, g1, g2, g3, (hk.trans g4).drew⟩
      clear hx0 hxn hP hk g1 g2 g3 g4 htk hx
      go_wp2
      go_ret2
      exact HF.out
theorem rdtext_no {B gr g c : Nat} {α : Type} {w : World} {s : Rs α} (h : PRs B w gr g s) (ht : isText c = false) :
    Calls Try.prog 46 #[.pointer (some ⟨gr, 0, none⟩), .int .u8 (c : Int)] w fun e w' => e = .returned (.tuple #[.string (str []), .bool false]) ∧ w = w' := by
  unfold isText at ht
  simp only [Bool.or_eq_false_iff, beq_eq_false_iff_ne] at ht
  obtain ⟨⟨h1, h2⟩, h3⟩ := ht
  have e5 : ((c : Int) / 32 == 5) = false := by simp; omega
  have e9 : ((c : Int) == 217) = false := by simp; omega
  have ea : ((c : Int) == 218) = false := by simp; omega
  clear h1 h2 h3 h
  go_enter Try.func46, Try.ntmps46
  go_wp2
  go_ret2
  exact ⟨rfl, rfl⟩
end Go.Proofs.Ytjdkcocfjbjopaa
