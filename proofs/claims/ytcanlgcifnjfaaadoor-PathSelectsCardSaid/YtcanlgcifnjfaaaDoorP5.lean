/- Layer 20: PathCleans. -/
import Derived.Test.YtcanlgcifnjfaaaDoorP4
import Derived.Test.YtcanlgcifnjfaaaDoorArg
import Derived.ChangeMaps5
set_option maxRecDepth 20000
namespace Go.Hd
open Go Go.RowKit Go.ChangeShapes Go.WideShapes Go.ChangeAt
theorem open_text {H : Type} {enc : TypeId × Value → H} {P : Program} {t : TypeId} (ht : P.underlying t = some .string) {W : World} {base : Nat} {v : Value} {d : DataW H} {p : List MemPlace}
    (hval : Value.okWide P W .any base t v) (h : DataW.Trod enc P W 0 (fun _ => true) true t v d p) : ∃ l : List UInt8, v = .string (str l) ∧ l.length ≤ maxLen := by
  obtain ⟨s, rfl, _, _, hs⟩ := Go.ChangeMaps.open_string ht hval h
  exact ⟨s.data.toList, by rw [str_of], by rw [← Lib.size_eq]; exact hs⟩
end Go.Hd
namespace Go.Proofs.YtcanlgcifnjfaaaDoor
open Go.RowKit Go.Hd Go.ChangeShapes Go.WideShapes Go.ChangeAt

set_option maxHeartbeats 2000000 in
theorem pcleans_law {W : World} (l : List UInt8) :
    Calls Tryd.prog 3 #[.string (str l)] W fun e W' => e = .returned (.bool true) ∧ Below W.heap.size W W' := by
  have hsh := short_any l 300 W (by decide)
  have hsl : (l.take 300).length ≤ 1000000 := by simp; omega
  generalize l.take 300 = s at *
  have hcl := fun w' => clean_any s w' hsl
  have hck := fun w' => check_any s w' hsl
  have hlv := fun w' => lives20_any w'
  have hT := cleanT_len s
  cases hR : cleanF s with
  | mk c e =>
  rw [hR] at hcl
  have hcll : c.length ≤ 1000000 := by
    have h1 : cleanF s = if checkF (cleanT s) = 0 then (cleanT s, 0) else ([], 8) := rfl
    rw [hR] at h1
    split at h1
    · injection h1 with h1 _; rw [h1]; omega
    · injection h1 with h1 _; rw [h1]; simp
  have hckc := fun w' => check_any c w' hcll
  have hclc := fun w' => clean_any c w' hcll
  by_cases he : e = 0
  · subst he
    obtain ⟨k1, k2⟩ := clean_ok hR
    rw [k1] at hckc
    rw [k2] at hclc
    have hpath : checkF s = 0 → c = s := fun h => by rw [clean_path h] at hR; injection hR with h _; exact h.symm
    have HP : Hid (checkF s = 0 → (str c).toList = (str s).toList) := fun h => by rw [hpath h]
    clear hR hT hsl hcll hpath k1 k2
    go_enter Tryd.func3, Tryd.ntmps3
    go_wp2_with fail
    refine hsh.mono ?_
    rintro ee w0 ⟨rfl, rfl⟩
    clear hsh
    go_wp2_with fail
    refine (hcl _).mono ?_
    rintro ee w1 ⟨rfl, hb1⟩
    go_wp2_with fail
    refine (hclc _).mono ?_
    rintro ee w2 ⟨rfl, hb2⟩
    have hb2' := Gr.trans hb1 hb2
    go_wp2_with fail
    refine (hckc _).mono ?_
    rintro ee w3 ⟨rfl, hb3⟩
    have hb3' := Gr.trans hb2' hb3
    go_wp2_with fail
    refine (hck _).mono ?_
    rintro ee w4 ⟨rfl, hb4⟩
    have hb4' := Gr.trans hb3' hb4
    clear hb1 hb2 hb3 hb4 hb2' hb3' hck hckc hcl hclc
    rcases checkF_cases s with h | h
    · have t1 := HP.out h
      rw [h]
      clear h HP
      go_wp2_with fail
      refine (hlv _).mono ?_
      rintro ee w5 ⟨rfl, hb5⟩
      go_wp2
      go_ret
      exact ⟨rfl, Gr.trans hb4' hb5⟩
    · rw [h]
      clear h HP
      go_wp2_with fail
      refine (hlv _).mono ?_
      rintro ee w5 ⟨rfl, hb5⟩
      go_wp2
      go_ret
      exact ⟨rfl, Gr.trans hb4' hb5⟩
  · obtain ⟨rfl, rfl, hbad⟩ := clean_bad hR he
    have h8 : checkF s = 8 := (checkF_cases s).resolve_left hbad
    rw [h8] at hck
    have e0 : (str ([] : List UInt8)).toList = [] := str_toList []
    have e1 : (str ([] : List UInt8)).toList.isEmpty = true := by rw [e0]; rfl
    clear hR hT hsl hcll hbad he h8 hckc hclc
    go_enter Tryd.func3, Tryd.ntmps3
    go_wp2_with fail
    refine hsh.mono ?_
    rintro ee w0 ⟨rfl, rfl⟩
    clear hsh
    go_wp2_with fail
    refine (hcl _).mono ?_
    rintro ee w1 ⟨rfl, hb1⟩
    go_wp2_with fail
    refine (hck _).mono ?_
    rintro ee w4 ⟨rfl, hb4⟩
    have hb4' := Gr.trans hb1 hb4
    clear hb1 hb4 hck hcl
    go_wp2_with fail
    refine (hlv _).mono ?_
    rintro ee w5 ⟨rfl, hb5⟩
    go_wp2
    go_ret
    exact ⟨rfl, Gr.trans hb4' hb5⟩
theorem pathCleans_calls {H : Type} {enc : TypeId × Value → H} {W : World} {base : Nat} {v0 : Value} {d0 : DataW H} {p0 : List MemPlace}
    (o0 : Value.okWide Tryd.prog W .any base 9 v0) (h0 : DataW.Trod enc Tryd.prog W 0 (fun _ => true) true 9 v0 d0 p0) :
    Calls Tryd.prog 3 #[v0] W fun e W' => e = .returned (.bool true) ∧ Below W.heap.size W W' := by
  obtain ⟨l, rfl, _⟩ := open_text Tryd.underlying9 o0 h0
  exact pcleans_law l
end Go.Proofs.YtcanlgcifnjfaaaDoor
