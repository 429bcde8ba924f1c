/- The walk of (*lz.reader).copied. -/
import Derived.Test.YtpkgcnklpnficaaZ8
import Derived.Deep.RegionLaw
namespace Go.Proofs.Ytpkgcnklpnficaa
open Go.RowKit Go.Hd

/-- Something is told. -/
theorem LzAt_out {w w' : World} {gr g : Nat} {most : Int} {l : List UInt8} {e : Int} {out' : List UInt8} {v' : Value} (h1 : g < gr) (h2 : RdAt gr w g l e)
    (hB : Buf (gr + 1) w' gr 69 5 [.pointer (some ⟨g, 0, none⟩), v', .int .i64 most] v' out') (hk : Kp (gr + 1) (some gr) w w') : LzAt w' gr g most l e out' ∧ Below g w w' := by
  refine ⟨⟨h1, ?_, v', hB⟩, hk.below (by omega) (fun k hk => by cases hk; omega)⟩
  obtain ⟨a, c, k1, k2, k3, k4, k5⟩ := h2
  refine ⟨a, c, k1.kp hk (by omega) (by simp; omega), k2.kp hk (fun h0 => ?_), k3, k4, k5⟩
  have := k5 (by simpa using h0)
  exact ⟨by omega, fun e => by cases e; omega⟩
def CpRel (w : World) (gr g : Nat) (most : Int) (l : List UInt8) (e : Int) (out : List UInt8) (d n : Nat) (i : Value) (wr : World) : Prop :=
  ∃ (j : Nat) (o : List UInt8), j ≤ n ∧ i = .int .i64 j ∧ copyF o d (n - j) = copyF out d n ∧ o.length = out.length + j ∧ LzAt wr gr g most l e o ∧ Below g w wr
set_option maxHeartbeats 1000000 in
theorem copied_any {w : World} {gr g d n : Nat} {most : Int} {l out : List UInt8} {e : Int} (h : LzAt w gr g most l e out) (hd1 : 1 ≤ d) (hd : d ≤ out.length) (hl : out.length + n ≤ 100000000) :
    Calls Try.prog 46 #[.pointer (some ⟨gr, 0, none⟩), .int .i64 d, .int .i64 n] w fun r w' => r = .returned (.tuple #[]) ∧ LzAt w' gr g most l e (copyF out d n) ∧ Below g w w' := by
  go_enter Try.func46, Try.ntmps46
  go_wp2
  go_loopw [7] (fun i wr => CpRel w gr g most l e out d n i wr) (fun i _ => n - (intOf i).toNat)
  case atStart => exact ⟨0, out, Nat.zero_le _, rfl, rfl, rfl, h, Below.refl _ _⟩
  case round =>
    clear h
    obtain ⟨j, o, hj, rfl, ho, hol, hat, hb⟩ := hrel
    have HO := Lib.hid ho
    have HOL := Lib.hid hol
    by_cases hlt : j < n
    · have hI : (j : Int) < n := by omega
      obtain ⟨hgg, hrd, v, hB⟩ := hat
      have hpos : o.length - d < o.length := by omega
      have hdo : d ≤ o.length := by omega
      have hob : (o.length : Int) ≤ 100000000 := by omega
      have hob2 : o.length + 1 ≤ 140737488355328 := by omega
      obtain ⟨av, cv, rfl, k1, k2, hrow, _⟩ := Own.at hB.own
      have c1 : wr.cell? ⟨gr, 1, none⟩ = _ := hB.blk.cell rfl
      have f1 := hB.blk.free 1
      have cb := hrow.byte hpos
      have sb := hrow.byteSome hpos
      obtain ⟨ch, hch⟩ : ∃ ch, ch = o[o.length - d] := ⟨_, rfl⟩
      rw [← hch] at cb
      have HN : Hid (copyF (o ++ [ch]) d (n - (j + 1)) = copyF out d n) := by
        show _ = _
        rw [← HO.out, show n - j = (n - (j + 1)) + 1 by omega, copyF, hch]
        congr 3
        rw [List.getD_eq_getElem?_getD, List.getElem?_eq_getElem hpos]; rfl
      have hw1 : IntKind.i64.wrap ((o.length : Int) - d) = (o.length : Int) - d := IntWalk.i64_in _ (by omega)
      have ht1 : ((o.length : Int) - d).toNat = o.length - d := by omega
      have h01 : 0 ≤ (o.length : Int) - d := by omega
      have h02 : (o.length : Int) - d < o.length := by omega
      have hBd : Buf (gr + 1) wr.drew gr 69 5 _ _ o := hB.keep (Below.refl _ _).drew
      obtain ⟨a', n', c', w1, hrun, hB1, hk1⟩ := Buf.append1 (ty := 22) hBd eB ch hob2
      have hl1 := hB.blk.lt
      have d1 : w1.cell? ⟨gr, 1, none⟩ = _ := hB1.blk.cell rfl
      have g1 := hB1.blk.free 1
      rw [show b8 ch = Value.int .u8 (ch.toNat : Int) from rfl, show wr.drew.heap.size = wr.heap.size from rfl] at hrun
      clear hch ho hol
      go_wp2
      go_region_law ((refine step_append_run hrun rfl rfl rfl rfl ?_))
      all_goals
        have hB2 := hB1.store 1 (.slice a' n' c')
        have hk1' : Kp (gr + 1) none wr w1 := ⟨hk1.os, hk1.tape, hk1.output, hk1.size, hk1.block⟩
        have hk2 : Kp (gr + 1) (some gr) wr (w1.setCell ⟨gr, 1, none⟩ (.slice a' n' c')) := hk1'.none.trans (Kp.set w1 1 _)
        obtain ⟨hat2, hb2⟩ := LzAt_out hgg hrd hB2 hk2
        have hb3 := hb.trans hb2
        generalize w1.setCell ⟨gr, 1, none⟩ (.slice a' n' c') = w2 at *
        clear hrun hB hB1 hBd hk1 hk1' hB2 hk2 c1 f1 cb d1 g1 hrow hrd hb hb2 hw1 ht1
        go_wp2
        first
          | exact ⟨⟨j + 1, o ++ [ch], by omega, (by first | rfl | go_num | (congr 1; omega)), HN.out, by have := HOL.out; rw [List.length_append]; simp; omega, hat2, hb3⟩, by simp [intOf] <;> omega⟩
          | (refine ⟨?_, by simp [intOf] <;> omega⟩; (repeat apply Exists.intro); exact ⟨⟨j + 1, o ++ [ch], by omega, (by first | rfl | go_num | (congr 1; omega)), HN.out, by have := HOL.out; rw [List.length_append]; simp; omega, hat2, hb3⟩, rfl⟩)
    · obtain rfl : j = n := by omega
      go_wp2
      go_end0
      rw [Nat.sub_self] at ho
      rw [← ho]
      exact ⟨rfl, hat, hb⟩
end Go.Proofs.Ytpkgcnklpnficaa
