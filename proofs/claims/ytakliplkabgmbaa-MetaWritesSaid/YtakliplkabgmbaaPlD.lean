/- Layer 05: what bytes are as a value (plain). -/
import Derived.Test.YtakliplkabgmbaaV8
set_option maxRecDepth 20000
namespace Go.Proofs.Ytakliplkabgmbaa
open Go.RowKit Go.Hd

/-- What a reading tells: something and the rest, or why not. -/
inductive Rs (α : Type) where
  | ok (x : α) (r : List UInt8)
  | no (c : Int)
namespace Rs
def bind {α β : Type} (s : Rs α) (f : α → List UInt8 → Rs β) : Rs β := match s with | ok x r => f x r | no c => no c
def isNo {α : Type} (s : Rs α) : Bool := match s with | ok _ _ => false | no _ => true
@[simp] theorem bind_ok {α β : Type} (x : α) (r : List UInt8) (f : α → List UInt8 → Rs β) : (ok x r).bind f = f x r := rfl
@[simp] theorem bind_no {α β : Type} (c : Int) (f : α → List UInt8 → Rs β) : (no c : Rs α).bind f = no c := rfl
theorem bind_bind {α β γ : Type} (s : Rs α) (f : α → List UInt8 → Rs β) (k : β → List UInt8 → Rs γ) : (s.bind f).bind k = s.bind fun x r => (f x r).bind k := by cases s <;> rfl
end Rs
def takeR (n : Nat) (l : List UInt8) : Rs (List UInt8) := if l.length < n then .no 3 else .ok (l.take n) (l.drop n)
def bigR (n : Nat) (l : List UInt8) : Rs Nat := (takeR n l).bind fun b r => .ok (getL b.reverse) r
def leastR (n lo : Nat) (l : List UInt8) : Rs Nat := (bigR n l).bind fun x r => if x < lo then .no 4 else .ok x r
def sext (n u : Nat) : Int := if u < 2 ^ (8 * n - 1) then (u : Int) else (u : Int) - 2 ^ (8 * n)
def signedR (n : Nat) (below : Int) (l : List UInt8) : Rs Int := (bigR n l).bind fun u r => if below ≤ sext n u then .no 4 else .ok (sext n u) r
def intR (c : Nat) (l : List UInt8) : Rs Int :=
  if c = 0xcc then (leastR 1 128 l).bind fun x r => .ok (x : Int) r else if c = 0xcd then (leastR 2 256 l).bind fun x r => .ok (x : Int) r else if c = 0xce then (leastR 4 65536 l).bind fun x r => .ok (x : Int) r else
  if c = 0xcf then (leastR 8 4294967296 l).bind fun x r => if 9223372036854775807 < x then .no 4 else .ok (x : Int) r else
  if c = 0xd0 then signedR 1 (-32) l else if c = 0xd1 then signedR 2 (-128) l else if c = 0xd2 then signedR 4 (-32768) l else signedR 8 (-2147483648) l
def isText (c : Nat) : Bool := c / 32 == 5 || c == 0xd9 || c == 0xda
def textR (c : Nat) (l : List UInt8) : Rs (List UInt8) :=
  if c / 32 = 5 then takeR (c % 32) l else if c = 0xd9 then (leastR 1 32 l).bind takeR else (leastR 2 256 l).bind takeR
def listR (f : List UInt8 → Rs PV) : Nat → List UInt8 → Rs (List PV)
  | 0, l => .ok [] l
  | n + 1, l => (f l).bind fun v r => (listR f n r).bind fun vs r2 => .ok (v :: vs) r2
/-- A key's lead, the key, and that it is behind the one before. -/
def keyR (prev : Option (List UInt8)) (l : List UInt8) : Rs (List UInt8) :=
  match l with
  | [] => .no 3
  | c :: r => if isText c.toNat = false then .no 4 else (textR c.toNat r).bind fun k r2 => if (match prev with | none => false | some p => leT k p) = true then .no 4 else .ok k r2
def dictR (f : List UInt8 → Rs PV) : Nat → Option (List UInt8) → List UInt8 → Rs (List (List UInt8 × PV))
  | 0, _, l => .ok [] l
  | n + 1, prev, l => (keyR prev l).bind fun k r => (f r).bind fun v r2 => (dictR f n (some k) r2).bind fun vs r3 => .ok ((k, v) :: vs) r3
def int8 (c : Nat) : Int := if c < 128 then (c : Int) else (c : Int) - 256
def pNum (n : Int) : PV := .mk 3 n [] [] [] []
def pTxt (t : List UInt8) : PV := .mk 5 0 [] t [] []
def pByt (b : List UInt8) : PV := .mk 4 0 b [] [] []
def pKind (k : Int) : PV := .mk k 0 [] [] [] []
def pList (l : List PV) : PV := .mk 6 0 [] [] [] l
def pDict (l : List (List UInt8 × PV)) : PV := .mk 7 0 [] [] (l.map (·.1)) (l.map (·.2))
/-- What stands behind a lead that is no text's. -/
def leadR (f : List UInt8 → Rs PV) (c : Nat) (r : List UInt8) : Rs PV :=
  if isText c = true then (textR c r).bind fun t r2 => .ok (pTxt t) r2 else
  if c ≤ 0x7f ∨ 0xe0 ≤ c then .ok (pNum (int8 c)) r else
  if c / 16 = 9 then (listR f (c % 16) r).bind fun l r2 => .ok (pList l) r2 else
  if c / 16 = 8 then (dictR f (c % 16) none r).bind fun l r2 => .ok (pDict l) r2 else
  if 0xcc ≤ c ∧ c ≤ 0xd3 then (intR c r).bind fun n r2 => .ok (pNum n) r2 else
  if c = 0xc0 then .ok (pKind 0) r else if c = 0xc2 then .ok (pKind 1) r else if c = 0xc3 then .ok (pKind 2) r else
  if c = 0xc4 then ((bigR 1 r).bind takeR).bind fun b r2 => .ok (pByt b) r2 else
  if c = 0xc5 then ((leastR 2 256 r).bind takeR).bind fun b r2 => .ok (pByt b) r2 else
  if c = 0xdc then (leastR 2 16 r).bind fun n r2 => (listR f n r2).bind fun l r3 => .ok (pList l) r3 else
  if c = 0xde then (leastR 2 16 r).bind fun n r2 => (dictR f n none r2).bind fun l r3 => .ok (pDict l) r3 else .no 4
/-- The value that bytes begin with. -/
def decV : Nat → List UInt8 → Rs PV
  | 0, l => if l = [] then .no 3 else .no 4
  | d + 1, l => match l with
    | [] => .no 3
    | c :: r => leadR (decV d) c.toNat r
/-- The value that bytes are, or why none. -/
def decF (l : List UInt8) : PV × Int := if 65536 < l.length then (pv0, 5) else match decV 16 l with
  | .no c => (pv0, c)
  | .ok v r => if r = [] then (v, 0) else (pv0, 6)
end Go.Proofs.Ytakliplkabgmbaa
