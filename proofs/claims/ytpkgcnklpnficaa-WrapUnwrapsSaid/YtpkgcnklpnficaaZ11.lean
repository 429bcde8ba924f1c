/- The walk of lz.Loosen. -/
import Derived.Test.YtpkgcnklpnficaaZ10
namespace Go.Proofs.Ytpkgcnklpnficaa
open Go.RowKit Go.Hd

/-- How much a reader has left, as memory tells. -/
def lenAt (w : World) (g : Nat) : Nat :=
  match w.cell? ⟨g, 0, none⟩ with
  | some (.slice _ n _) => n
  | _ => 0
theorem LzAt_len {w : World} {gr g : Nat} {most : Int} {l out : List UInt8} {e : Int} (h : LzAt w gr g most l e out) : lenAt w g = l.length := by
  obtain ⟨_, ⟨a, c, hB, _⟩, _⟩ := h
  have c0 : w.cell? ⟨g, 0, none⟩ = _ := hB.cell rfl
  unfold lenAt
  rw [c0]
theorem loStep_out {most : Nat} {out l l' o : List UInt8} (h : loStep most out l = .next l' o) : o.length ≤ most := by
  unfold loStep at h
  split at h
  · cases h
  · split at h
    · cases h
    · unfold loLits at h
      split at h
      · cases h
      · split at h
        · cases h
        · split at h
          · cases h
          · unfold loCopy at h
            split at h
            · cases h
            · split at h
              · cases h
              · split at h
                · cases h
                · split at h
                  · cases h
                  · cases h
                    rw [copyF_length]
                    omega
def LoRel (w1 : World) (gr g M : Nat) (F : List UInt8 × Int) (wr : World) : Prop :=
  ∃ (f : Nat) (l o : List UInt8), LzAt wr gr g M l 0 o ∧ loGo M f l o = F ∧ l.length < f ∧ o.length ≤ M ∧ Below g w1 wr ∧ l.length ≤ 100000
/-- What Loosen answers. -/
def LoPost (w : World) (F : List UInt8 × Int) (r : Ending) (w' : World) : Prop := ∃ v, r = .returned (.tuple #[v, .int .i64 F.2]) ∧ Fresh w w' v F.1
theorem loosen_bad {a : Option Addr} {n c : Nat} {l : List UInt8} {most : Int} {w : World} (h : most < 0 ∨ 65536 < most) :
    Calls Try.prog 35 #[.slice a n c, .int .i64 most] w (LoPost w (loosenF l most)) := by
  have HP : Hid (loosenF l most = ([], 2)) := if_pos h
  have fin : LoPost w (loosenF l most) (.returned (.tuple #[.slice none 0 0, .int .i64 2])) w := by
    rw [HP.out]
    exact ⟨_, rfl, Own.nil _ _ _, Below.refl _ _⟩
  have FIN := Lib.hid fin
  clear fin
  by_cases h0 : most < 0
  · clear h
    go_enter Try.func35, Try.ntmps35
    go_wp2
    go_ret2
    exact FIN.out
  · have h1 : 65536 < most := h.resolve_left h0
    clear h
    go_enter Try.func35, Try.ntmps35
    go_wp2
    go_ret2
    exact FIN.out
theorem loosen_good {a : Option Addr} {n c M : Nat} {l : List UInt8} {w : World} (hn : n = l.length) (hl : Row w a (l.map b8)) (hm : l.length ≤ 100000) (hM : M ≤ 65536) :
    Calls Try.prog 35 #[.slice a n c, .int .i64 M] w (LoPost w (loosenF l M)) := by
  subst hn
  obtain ⟨F, hF⟩ : ∃ F, F = loosenF l M := ⟨_, rfl⟩
  have hF0 : loGo M (l.length + 1) l [] = F := by
    rw [hF]; unfold loosenF
    rw [if_neg (by omega)]
    rfl
  rw [← hF]
  clear hF
  have h0 : ¬ (M : Int) < 0 := by omega
  have h1 : ¬ (65536 : Int) < M := by omega
  go_enter Try.func35, Try.ntmps35
  go_wp2_with fail
  refine (open_any (l := l) (by rfl) hl (by omega)).mono ?_
  rintro e w1 ⟨g, rfl, hg, hrd, hb⟩
  have hgl := hrd.lt
  have hat : LzAt (w1.alloc (.cells #[.pointer (some ⟨g, 0, none⟩), .slice none 0 0, .int .i64 (M : Int)] 69)) w1.heap.size g M l 0 [] := by
    refine ⟨hgl, hrd.keep ((Below.refl _ _).alloc (Nat.le_refl _) _), .slice none 0 0, Blk.new _ _ _, Own.nil _ _ _, by omega, by simp⟩
  have hb2 : Below w.heap.size w (w1.alloc (.cells #[.pointer (some ⟨g, 0, none⟩), .slice none 0 0, .int .i64 (M : Int)] 69)) := hb.alloc hb.size _
  have hgr : w.heap.size ≤ w1.heap.size := hb.size
  go_wp2
  generalize w1.alloc (.cells #[.pointer (some ⟨g, 0, none⟩), .slice none 0 0, .int .i64 (M : Int)] 69) = w2 at *
  generalize w1.heap.size = gr at *
  clear hrd hb
  go_loopw [7, 8, 20] (fun _ _ _ wr => LoRel w2 gr g M F wr) (fun _ _ _ wr => lenAt wr g)
  case atStart => exact ⟨l.length + 1, l, [], hat, hF0, by omega, Nat.zero_le _, Below.refl _ _, hm⟩
  case round =>
    clear hat hF0
    obtain ⟨f, l1, o, hat, hlo, hf, hoM, hb, hl1⟩ := hrel
    have hlen := LzAt_len hat
    obtain ⟨f, rfl⟩ : ∃ f', f = f' + 1 := ⟨f - 1, by omega⟩
    have HLO := Lib.hid hlo
    have HLEN := Lib.hid hlen
    clear hlo hlen
    go_wp2_with fail
    refine (seq_any hat hl1 hM hoM).mono ?_
    intro e2 w3 hsq
    obtain ⟨hb3, hsq⟩ := hsq
    have hb03 : Below g w2 w3 := hb.trans hb3
    have hbw : Below w.heap.size w w3 := hb2.trans (hb03.mono hg)
    cases hS : loStep M o l1 with
    | stop o' e' =>
      rw [hS] at hsq
      have HFE : Hid (F = (o', e')) := by
        show _ = _
        rw [← HLO.out, loGo, hS]
      clear hS hat
      by_cases he : e' = 0
      · have hsq' : (if e' = 0 then e2 = .returned (.tuple #[.bool true, .int .i64 0]) ∧ ∃ l, LzAt w3 gr g M l 0 o' else o' = [] ∧ e2 = .returned (.tuple #[.bool false, .int .i64 e'])) := hsq
        rw [if_pos he] at hsq'
        obtain ⟨rfl, l4, _, _, v, hB⟩ := hsq'
        have c1 : w3.cell? ⟨gr, 1, none⟩ = _ := hB.blk.cell rfl
        have fin : LoPost w F (.returned (.tuple #[v, .int .i64 0])) w3 := by
          rw [HFE.out, he]
          exact ⟨v, rfl, Own.mono hB.own (by omega), hbw⟩
        have FIN := Lib.hid fin
        clear fin hB hsq he
        go_wp2
        go_ret2
        exact FIN.out
      · have hsq' : (if e' = 0 then e2 = .returned (.tuple #[.bool true, .int .i64 0]) ∧ ∃ l, LzAt w3 gr g M l 0 o' else o' = [] ∧ e2 = .returned (.tuple #[.bool false, .int .i64 e'])) := hsq
        rw [if_neg he] at hsq'
        obtain ⟨rfl, rfl⟩ := hsq'
        have heB : (e' != 0) = true := by simp [he]
        have fin : LoPost w F (.returned (.tuple #[.slice none 0 0, .int .i64 e'])) w3 := by
          rw [HFE.out]
          exact ⟨_, rfl, Own.nil _ _ _, hbw⟩
        have FIN := Lib.hid fin
        clear fin hsq he
        go_wp2
        go_ret2
        exact FIN.out
    | next l2 o2 =>
      rw [hS] at hsq
      obtain ⟨rfl, hat3⟩ := hsq
      have hll := loStep_len hS
      have hoo := loStep_out hS
      have hr : LoRel w2 gr g M F w3 := ⟨f, l2, o2, hat3, by rw [← HLO.out, loGo, hS], by omega, hoo, hb03, by omega⟩
      have hms : lenAt w3 g < lenAt wr g := by rw [LzAt_len hat3, HLEN.out]; exact hll
      have HR := Lib.hid hr
      have HMS := Lib.hid hms
      clear hr hms hS hat hat3 hb3 hb03 hbw hb
      go_wp2
      first
        | exact ⟨HR.out, HMS.out⟩
        | (refine ⟨?_, HMS.out⟩; (repeat apply Exists.intro); exact ⟨HR.out, rfl⟩)
end Go.Proofs.Ytpkgcnklpnficaa
