/- Walks over rows of bytes: what each function of layer 1 and of its answer hands back. -/
import Derived.Test.YtjooojklkihkcaaRows
import Derived.Test.YtjooojklkihkcaaLib
import Derived.Test.YtjooojklkihkcaaPl1
namespace Go.Proofs.Ytjooojklkihkcaa
open Go.RowKit Go.Hd

theorem eB : Elem Try.prog 22 5 (.int .u8 0) 1 1 := ⟨by kernel_rfl, by kernel_rfl, rfl, by decide⟩

/-- v is the call's own, holds l; what was there is as it was. -/
def Fresh (w w' : World) (v : Value) (l : List UInt8) : Prop := w'.ownsRow w.heap.size 5 1 v l.length (l.map b8) ∧ Below w.heap.size w w'

theorem same_any {a b : Option Addr} {n1 n2 c d : Nat} {l m : List UInt8} {w : World} (h1 : n1 = l.length) (h2 : n2 = m.length) (hl : Row w a (l.map b8)) (hm : Row w b (m.map b8)) (hc : l.length ≤ maxLen) :
    Calls Try.prog 13 #[.slice a n1 c, .slice b n2 d] w fun e w' => e = .returned (.bool (l == m)) ∧ ∃ n, w' = w.drewN n := by
  subst h1 h2
  unfold maxLen at hc
  by_cases hlen : l.length = m.length
  · have hne : ((l.length : Int) != (m.length : Int)) = false := by simp [hlen]
    have HL := Lib.hid hlen
    have hle : l.length ≤ m.length := by omega
    clear hlen
    go_enter Try.func13, Try.ntmps13
    go_wp2
    go_loopw [5] (fun i w' => ∃ k : Nat, k ≤ l.length ∧ i = .int .i64 k ∧ l.take k = m.take k ∧ ∃ n, w' = w.drewN n) (fun i _ => l.length - (intOf i).toNat)
    case atStart => exact ⟨0, Nat.zero_le _, rfl, rfl, 0, rfl⟩
    case round =>
      obtain ⟨k, hk, rfl, htake, n, rfl⟩ := hrel
      have HT := Lib.hid htake
      clear htake
      by_cases hlt : k < l.length
      · have hlt2 : k < m.length := by omega
        have c1 := hl.byte hlt
        have c2 := hm.byte hlt2
        have s1 := hl.byteSome hlt
        have s2 := hm.byteSome hlt2
        go_wp2
        go_quiet (fail)
        go_wp2
        · go_ret
          refine ⟨ret_bool ?_, n + nq, by first | rfl | rw [drewN_two]⟩
          rename_i hx
          have h1 : l[k].toNat ≠ m[k].toNat := by have h := hx; simp at h; omega
          refine (beq_eq_false_iff_ne.2 ?_).symm
          intro e
          exact h1 (by simp [e])
        · rename_i hx
          have h1 : l[k] = m[k] := UInt8.toNat_inj.1 (by have h := hx; simp at h; omega)
          have HK : Hid (l.take (k + 1) = m.take (k + 1)) := by
            show _ = _
            rw [List.take_succ_eq_append_getElem hlt, List.take_succ_eq_append_getElem hlt2, HT.out, h1]
          clear h1 hx
          go_roundw
          case rel => exact ⟨k + 1, by omega, by go_num, HK.out, n + nq, by first | rfl | rw [drewN_two]⟩
          case measure => simp [intOf]; omega
      · go_wp2
        go_ret
        refine ⟨ret_bool ?_, n, rfl⟩
        have := HL.out
        have h2 := HT.out
        rw [List.take_of_length_le (by omega), List.take_of_length_le (by omega)] at h2
        simp [h2]
  · have hne : ((l.length : Int) != (m.length : Int)) = true := by simp; omega
    have hle : (l == m) = false := by simp; intro h; exact hlen (by rw [h])
    rw [hle]
    have HL := Lib.hid hlen
    clear hlen hle
    go_enter Try.func13, Try.ntmps13
    go_wp2
    go_ret
    exact ⟨rfl, 0, rfl⟩

theorem grown_set {w wr : World} {g : Nat} (h : w.grownBy wr (some g)) (i : Nat) (u : Value) : w.grownBy (wr.setCell ⟨g, i, none⟩ u) (some g) :=
  ⟨h.os, h.tape, h.output, by simpa [World.setCell] using h.size, fun k hk hne => by rw [Below.heap_setCell _ _ _ _ (fun e => hne (by simp only at e; rw [e]))]; exact h.block k hk hne⟩

theorem Fresh.open {w w' : World} {v : Value} {l : List UInt8} (h : Fresh w w' v l) : ∃ a c, v = .slice a l.length c ∧ Row w' a (l.map b8) ∧ Below w.heap.size w w' ∧ l.length ≤ maxLen ∧ l.length ≤ c := by
  obtain ⟨a, c, hv, h1, h2, h3⟩ := owns_row h.1
  exact ⟨a, c, hv, h3, h.2, by omega, h1⟩
end Go.Proofs.Ytjooojklkihkcaa
