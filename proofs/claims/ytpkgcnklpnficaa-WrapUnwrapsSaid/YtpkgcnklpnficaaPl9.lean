/- Plain laws of layer 9 (wrap). -/
import Derived.Test.YtpkgcnklpnficaaPl8
namespace Go.Hd
open Go

/-- A text wrapped: stored, or squeezed. -/
def wrapB (k : UInt8) (n : Nat) (l : List UInt8) : List UInt8 := k :: (putL n 4 ++ l)
def wrapF (l : List UInt8) (st : Bool) : List UInt8 :=
  if st = false ∧ (squeezeF l).length < l.length then wrapB 1 l.length (squeezeF l) else wrapB 0 l.length l
theorem wrapF_yes {l : List UInt8} (h : (squeezeF l).length < l.length) : wrapF l false = wrapB 1 l.length (squeezeF l) := if_pos ⟨rfl, h⟩
theorem wrapF_no {l : List UInt8} (h : ¬ (squeezeF l).length < l.length) : wrapF l false = wrapB 0 l.length l := if_neg fun e => h e.2
theorem wrapF_st (l : List UInt8) : wrapF l true = wrapB 0 l.length l := if_neg fun e => by cases e.1
theorem wrapB_length (k : UInt8) (n : Nat) (l : List UInt8) : (wrapB k n l).length = 5 + l.length := by simp [wrapB, putL]; omega
theorem wrapF_length (l : List UInt8) (st : Bool) : (wrapF l st).length ≤ 5 + l.length := by
  unfold wrapF
  split
  · rename_i h; rw [wrapB_length]; omega
  · rw [wrapB_length]; exact Nat.le_refl _
end Go.Hd
