/- Layer 23: List, lives, MetaNames. -/
import Derived.Test.YtakliplkabgmbaaM5
import Derived.Test.YtakliplkabgmbaaArg
import Derived.Deep.Strs
import Derived.ChangeMaps5
set_option maxRecDepth 20000
namespace Go.Hd
open Go Go.RowKit Go.ChangeShapes Go.WideShapes Go.ChangeAt
theorem open_text {H : Type} {enc : TypeId × Value → H} {P : Program} {t : TypeId} (ht : P.underlying t = some .string) {W : World} {base : Nat} {v : Value} {d : DataW H} {p : List MemPlace}
    (hval : Value.okWide P W .any base t v) (h : DataW.Trod enc P W 0 (fun _ => true) true t v d p) : ∃ l : List UInt8, v = .string (str l) ∧ l.length ≤ maxLen := by
  obtain ⟨s, rfl, _, _, hs⟩ := Go.ChangeMaps.open_string ht hval h
  exact ⟨s.data.toList, by rw [str_of], by have : s.data.toList.length = s.size := Array.length_toList; omega⟩
end Go.Hd
namespace Go.Proofs.Ytakliplkabgmbaa
open Go.RowKit Go.Hd Go.ChangeShapes Go.WideShapes Go.ChangeAt

def metaL (l : List Abt) : List UInt8 × Int := if checkL l ≠ 0 then ([], checkL l) else encF (listV l)
theorem mlist_any {a : Option Addr} {n c : Nat} {l : List Abt} {w : World} (hn : n = l.length) (hr : Row w a (l.map abtC).flatten) (hok : ∀ x ∈ l, AbtOk x) (hl : l.length ≤ 1000) :
    Calls Try.prog 14 #[.slice a n c] w fun e w' => ∃ u, e = .returned (.tuple #[u, .int .i64 (metaL l).2]) ∧ BRd w' u (metaL l).1 ∧ Below w.heap.size w w' := by
  subst hn
  have hck := checkList_any (c := c) rfl hr hok hl
  have hlv := fun w' (hb : Below w.heap.size w w') => listValue_any (c := c) rfl (hr.below hb) hok hl
  have HM : Hid (metaL l = if checkL l ≠ 0 then ([], checkL l) else encF (listV l)) := rfl
  generalize metaL l = R at *
  generalize listV l = v at *
  by_cases h0 : checkL l = 0
  · rw [h0] at hck
    have hR : Hid (R = encF v) := by show _ = _; rw [HM.out, if_neg (by rw [h0]; simp)]
    clear HM h0
    go_enter Try.func14, Try.ntmps14
    go_wp2_with fail
    refine hck.mono ?_
    rintro e w1 ⟨rfl, hb1⟩
    go_wp2_with fail
    refine (hlv _ hb1).mono ?_
    rintro e w2 ⟨cs, rfl, hv, hb2⟩
    have he := enc_any hv.at (Below.refl _ _)
    go_wp2_with fail
    refine he.mono ?_
    rintro e w3 ⟨u, rfl, hu, hb3⟩
    go_wp2
    go_ret2
    exact ⟨u, by rw [hR.out] <;> rfl, by rw [hR.out]; exact hu, Gr.trans hb1 (Gr.trans hb2 hb3)⟩
  · have e1 : (checkL l == 0) = false := by simpa using h0
    have e2 : (checkL l != 0) = true := by simpa using h0
    have hR : Hid (R = ([], checkL l)) := by show _ = _; rw [HM.out, if_pos h0]
    generalize checkL l = E at *
    clear HM h0
    go_enter Try.func14, Try.ntmps14
    go_wp2_with fail
    refine hck.mono ?_
    rintro e w1 ⟨rfl, hb1⟩
    go_wp2
    go_ret2
    exact ⟨.slice none 0 0, by rw [hR.out] <;> rfl, by rw [hR.out]; exact BRd.nil _, hb1⟩
theorem metaL_nil : metaL [] = ([130, 161, 97, 144, 161, 118, 1], 0) := by decide +kernel
theorem lives23_any (w : World) : Calls Try.prog 11 #[] w fun e w' => e = .returned (.bool true) ∧ Below w.heap.size w w' := by
  have hL := mlist_any (a := none) (n := 0) (c := 0) (l := []) (w := w) rfl (Row.nil _ _) (by simp) (by simp)
  rw [metaL_nil] at hL
  go_enter Try.func11, Try.ntmps11
  go_wp2_with fail
  refine hL.mono ?_
  rintro e w1 ⟨u, rfl, ⟨a, c, rfl, hc1, hc2, hr⟩, hb1⟩
  have hcv := run_convert_row (P := Try.prog) (src := 35) (e := 5) (dst := 9) (c := c) eB.ht Try.underlying5 Try.underlying9 rfl hr
  have hcn := checkName_any [97] w1 (by decide)
  rw [show nameE [97] = 0 by decide +kernel] at hcn
  rw [show str [97] = ⟨#[97]⟩ from rfl] at hcn
  change (convert 35 9 (.slice a 7 c)).run _ _ = .ok (.string ⟨#[130, 161, 97, 144, 161, 118, 1]⟩) _ at hcv
  go_wp2_with fail
  refine hcn.mono ?_
  rintro e w2 ⟨rfl, hb2⟩
  go_wp2
  go_ret
  exact ⟨rfl, Gr.trans hb1 hb2⟩
theorem mnames_law {W : World} (ls : List UInt8) :
    Calls Try.prog 3 #[.string (str ls)] W fun e W' => e = .returned (.bool true) ∧ Below W.heap.size W W' := by
  have hsh := short_any ls 50 W (by decide)
  have hl : (ls.take 50).length ≤ 50 := by simp; omega
  generalize ls.take 50 = s at *
  have hrn := fun w' => rname_any s w' (by omega)
  have hcn := fun w' => checkName_any s w' (by unfold maxLen; omega)
  have hlv := fun w' => lives23_any w'
  have HF : Hid (nameE s = if nameB s then 0 else 7) := rfl
  clear hl
  generalize nameB s = nb at *
  cases nb
  · have h7 : nameE s = 7 := HF.out
    rw [h7] at hcn
    clear HF h7
    go_enter Try.func3, Try.ntmps3
    go_wp2_with fail
    refine hsh.mono ?_
    rintro e w0 ⟨rfl, rfl⟩
    go_wp2_with fail
    refine (hrn _).mono ?_
    rintro e w0 ⟨rfl, rfl⟩
    go_wp2_with fail
    refine (hcn _).mono ?_
    rintro e w1 ⟨rfl, hb1⟩
    go_wp2_with fail
    refine (hlv _).mono ?_
    rintro e w2 ⟨rfl, hb2⟩
    go_wp2
    go_ret
    exact ⟨rfl, Gr.trans hb1 hb2⟩
  · have h7 : nameE s = 0 := HF.out
    rw [h7] at hcn
    clear HF h7
    go_enter Try.func3, Try.ntmps3
    go_wp2_with fail
    refine hsh.mono ?_
    rintro e w0 ⟨rfl, rfl⟩
    go_wp2_with fail
    refine (hrn _).mono ?_
    rintro e w0 ⟨rfl, rfl⟩
    go_wp2_with fail
    refine (hcn _).mono ?_
    rintro e w1 ⟨rfl, hb1⟩
    go_wp2_with fail
    refine (hlv _).mono ?_
    rintro e w2 ⟨rfl, hb2⟩
    go_wp2
    go_ret
    exact ⟨rfl, Gr.trans hb1 hb2⟩
theorem metaNames_calls {H : Type} {enc : TypeId × Value → H} {W : World} {base : Nat} {v0 : Value} {d0 : DataW H} {p0 : List MemPlace}
    (o0 : Value.okWide Try.prog W .any base 9 v0) (h0 : DataW.Trod enc Try.prog W 0 (fun _ => true) true 9 v0 d0 p0) :
    Calls Try.prog 3 #[v0] W fun e W' => e = .returned (.bool true) ∧ Below W.heap.size W W' := by
  obtain ⟨la, rfl, _⟩ := open_text Try.underlying9 o0 h0
  exact mnames_law la
end Go.Proofs.Ytakliplkabgmbaa
