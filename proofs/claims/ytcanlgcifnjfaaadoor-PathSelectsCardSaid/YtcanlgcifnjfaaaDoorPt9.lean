/- Layer 20: which texts a pattern that was read matches. -/
import Derived.Test.YtcanlgcifnjfaaaDoorPt8
import Derived.Test.YtcanlgcifnjfaaaDoorP3
set_option maxRecDepth 20000
namespace Go.Hd
/-- The four styles. -/
def styS : Nat → ByteArray
  | 0 => ⟨#[112, 102, 58]⟩
  | 1 => ⟨#[112, 112, 58]⟩
  | 2 => ⟨#[102, 109, 58]⟩
  | _ => ⟨#[115, 104, 58]⟩
def matchK (k : Nat) (rest : List UInt8) (T : List Tok) (s : List UInt8) : Bool :=
  if k = 0 then s == rest else if k = 1 then s == rest || beginsB s (rest ++ [47]) else walkF (k == 3) T s T.length != 0
end Go.Hd
namespace Go.Proofs.YtcanlgcifnjfaaaDoor
open Go.RowKit Go.Hd

set_option maxHeartbeats 1000000 in
theorem match_any {k n c : Nat} {rest s : List UInt8} {a : Option Addr} {T : List Tok} {w : World} (hk : k ≤ 3) (hn : n = T.length) (hrow : TokRow w a T) (hT : T.length ≤ 1000) (hs : s.length ≤ 1000000) (hr : rest.length ≤ 1000000) :
    Calls Tryd.prog 37 #[.agg #[.string (styS k), .string (str rest), .slice a n c], .string (str s)] w fun e w' => e = .returned (.bool (matchK k rest T s)) ∧ Below w.heap.size w w' := by
  subst hn
  have hb0 : ∀ cs : Array Value, Below w.heap.size w (w.alloc (.cells cs 52)) := fun cs => (Below.refl _ _).alloc (Nat.le_refl _) _
  have HE : Hid (((str s).toList == (str rest).toList) = (s == rest)) := by
    show _ = _
    rw [str_toList, str_toList]
  rcases (by omega : k = 0 ∨ k = 1 ∨ k = 2 ∨ k = 3) with rfl | rfl | rfl | rfl
  · have hR : Hid (matchK 0 rest T s = (s == rest)) := rfl
    unfold styS
    generalize (s == rest) = R at *
    have t1 := HE.out
    clear HE
    go_enter Tryd.func37, Tryd.ntmps37
    go_wp2
    go_ret
    exact ⟨by rw [hR.out] <;> rfl, hb0 _⟩
  · have hR : Hid (matchK 1 rest T s = ((s == rest) || beginsB s (rest ++ [47]))) := rfl
    have h47 := str_slash rest hr
    have hpf := fun w' => prefix_any s (rest ++ [47]) w'
    unfold styS
    have t1 := HE.out
    clear HE
    generalize (s == rest) = R at *
    cases R
    · go_enter Tryd.func37, Tryd.ntmps37
      go_wp2_with fail
      refine (hpf _).mono ?_
      rintro e w1 ⟨rfl, hw⟩
      subst hw
      go_wp2
      go_ret
      exact ⟨by rw [hR.out] <;> rfl, hb0 _⟩
    · go_enter Tryd.func37, Tryd.ntmps37
      go_wp2
      go_ret
      exact ⟨by rw [hR.out] <;> rfl, hb0 _⟩
  · have hR : Hid (matchK 2 rest T s = (walkF false T s T.length != 0)) := rfl
    have hwk := fun w' (h : TokRow w' a T) => walk_any (sh := false) (tx := str rest) (c := c) s rfl h hT hs
    have h2 := hwk _ (hrow.below (hb0 #[.string (styS 2), .string (str rest), .slice a T.length c]))
    rw [show styV false = ⟨#[102, 109, 58]⟩ from rfl, show styS 2 = ⟨#[102, 109, 58]⟩ from rfl] at h2
    rw [show styS 2 = ⟨#[102, 109, 58]⟩ from rfl]
    clear hwk HE
    go_enter Tryd.func37, Tryd.ntmps37
    go_wp2_with fail
    refine h2.mono ?_
    rintro e w1 ⟨rfl, hb1⟩
    go_wp2
    go_ret
    exact ⟨by rw [hR.out] <;> rfl, Gr.trans (hb0 _) hb1⟩
  · have hR : Hid (matchK 3 rest T s = (walkF true T s T.length != 0)) := rfl
    have hwk := fun w' (h : TokRow w' a T) => walk_any (sh := true) (tx := str rest) (c := c) s rfl h hT hs
    have h2 := hwk _ (hrow.below (hb0 #[.string (styS 3), .string (str rest), .slice a T.length c]))
    rw [show styV true = ⟨#[115, 104, 58]⟩ from rfl, show styS 3 = ⟨#[115, 104, 58]⟩ from rfl] at h2
    rw [show styS 3 = ⟨#[115, 104, 58]⟩ from rfl]
    clear hwk HE
    go_enter Tryd.func37, Tryd.ntmps37
    go_wp2_with fail
    refine h2.mono ?_
    rintro e w1 ⟨rfl, hb1⟩
    go_wp2
    go_ret
    exact ⟨by rw [hR.out] <;> rfl, Gr.trans (hb0 _) hb1⟩
end Go.Proofs.YtcanlgcifnjfaaaDoor
