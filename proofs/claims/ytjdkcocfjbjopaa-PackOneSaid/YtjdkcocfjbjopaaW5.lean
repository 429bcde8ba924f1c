/- The walks of BitsTurns, BitsRound, BitsGets, BitsBack: each law answers true, and what was there is as it was. -/
import Derived.Test.YtjdkcocfjbjopaaW4
set_option maxRecDepth 20000
namespace Go.Proofs.Ytjdkcocfjbjopaa
open Go.ChangeShapes Go.WideShapes Go.ChangeAt Go.RowKit Go.Hd

/-- What Get, GetBig and the document's Get answer of any bytes. -/
def gotOf (l : List UInt8) : Value := if 1 ≤ l.length ∧ l.length ≤ 8 then .tuple #[.int .u64 (getL l : Int), .bool true] else .tuple #[.int .u64 0, .bool false]
def gV (l : List UInt8) : Nat := if 1 ≤ l.length ∧ l.length ≤ 8 then getL l else 0
def gB (l : List UInt8) : Bool := decide (1 ≤ l.length ∧ l.length ≤ 8)
theorem get_all {a : Option Addr} {n c : Nat} {l : List UInt8} {w : World} (hn : n = l.length) (hl : Row w a (l.map b8)) :
    Calls Try.prog 62 #[.slice a n c] w fun e w' => e = .returned (.tuple #[.int .u64 (gV l : Int), .bool (gB l)]) ∧ w = w' := by
  by_cases h : 1 ≤ l.length ∧ l.length ≤ 8
  · have e1 : gV l = getL l := if_pos h
    have e2 : gB l = true := decide_eq_true h
    rw [e1, e2]
    exact get_any a n c l w hn hl h.1 h.2
  · have e1 : gV l = 0 := if_neg h
    have e2 : gB l = false := decide_eq_false h
    rw [e1, e2]
    exact get_none a n c w (by omega)
theorem rget_all {a : Option Addr} {n c : Nat} {l : List UInt8} {w : World} (hn : n = l.length) (hl : Row w a (l.map b8)) :
    Calls Try.prog 71 #[.slice a n c] w fun e w' => e = .returned (.tuple #[.int .u64 (gV l : Int), .bool (gB l)]) ∧ w = w' := by
  by_cases h : 1 ≤ l.length ∧ l.length ≤ 8
  · have e1 : gV l = getL l := if_pos h
    have e2 : gB l = true := decide_eq_true h
    rw [e1, e2]
    exact rget_any a n c l w hn hl h.1 h.2
  · have e1 : gV l = 0 := if_neg h
    have e2 : gB l = false := decide_eq_false h
    rw [e1, e2]
    exact rget_none a n c w (by omega)
theorem getbig_all {a : Option Addr} {n c : Nat} {l : List UInt8} {w : World} (hn : n = l.length) (hl : Row w a (l.map b8)) :
    Calls Try.prog 65 #[.slice a n c] w fun e w' => e = .returned (.tuple #[.int .u64 (gV l.reverse : Int), .bool (gB l)]) ∧ w = w' := by
  by_cases h : 1 ≤ l.length ∧ l.length ≤ 8
  · have e1 : gV l.reverse = getL l.reverse := if_pos (by simpa using h)
    have e2 : gB l = true := decide_eq_true h
    rw [e1, e2]
    exact getbig_any a n c l w hn hl h.1 h.2
  · have e1 : gV l.reverse = 0 := if_neg (by simpa using h)
    have e2 : gB l = false := decide_eq_false h
    rw [e1, e2]
    exact getbig_none a n c w (by omega)

section
variable {H : Type} {enc : TypeId × Value → H} {W : World} {base : Nat} {v0 v1 v2 : Value} {d0 d1 d2 : DataW H} {p0 p1 p2 : List MemPlace}
theorem cellsb : Try.prog.cellsOf 5 = 1 := by kernel_rfl
end
end Go.Proofs.Ytjdkcocfjbjopaa
