/- A slice of texts that came in, opened. -/
import Derived.Test.YtcanlgcifnjfaaaDoorArg
import Derived.Test.YtcanlgcifnjfaaaDoorRows
import Derived.Test.YtcanlgcifnjfaaaDoorV1
import Derived.Deep.Strs
set_option maxRecDepth 20000
namespace Go.Proofs.YtcanlgcifnjfaaaDoor
open Go.RowKit Go.Hd Go.ChangeShapes Go.WideShapes Go.ChangeAt
theorem open_textsA {H : Type} {enc : TypeId × Value → H} {W : World} {base : Nat} {v : Value} {d : DataW H} {p : List MemPlace} (hval : Value.okWide Tryd.prog W .any base 31 v) (h : DataW.Trod enc Tryd.prog W 0 (fun _ => true) true 31 v d p) :
    ∃ (a : Option Addr) (c : Nat) (ks : List (List UInt8)), v = .slice a ks.length c ∧ ks.length ≤ maxLen ∧ Row W a (ks.map strV) ∧ ∀ x ∈ ks, x.length ≤ maxLen := by
  obtain ⟨a, n, c, xs, rfl, hn, hnc, hcm, hr, hx⟩ := open_rows (s := 1) Tryd.underlying31 (by kernel_rfl) hval h
  have hk : ∃ ks : List (List UInt8), ks.length = xs.length ∧ xs.flatten = ks.map strV ∧ ∀ x ∈ ks, x.length ≤ maxLen := by
    clear hr hn
    induction xs with
    | nil => exact ⟨[], rfl, rfl, by simp⟩
    | cons x xs ih =>
      obtain ⟨ks, h1, h2, h3⟩ := ih (fun z hz => hx z (by simp [hz]))
      obtain ⟨_, m, z, hz⟩ := hx x (by simp)
      obtain ⟨s, hs, _, hsm⟩ := DataW.trod_string Tryd.underlying9 hz
      subst hs
      refine ⟨s.data.toList :: ks, by simp [h1], ?_, fun q hq => ?_⟩
      · rw [List.flatten_cons, h2, List.map_cons]
        unfold strV
        rw [str_of]; rfl
      · rcases List.mem_cons.1 hq with rfl | h
        · have : s.data.toList.length = s.size := Array.length_toList
          omega
        · exact h3 q h
  obtain ⟨ks, h1, h2, h3⟩ := hk
  obtain rfl : n = ks.length := by omega
  exact ⟨a, c, ks, rfl, by omega, by rw [← h2]; exact hr, h3⟩
end Go.Proofs.YtcanlgcifnjfaaaDoor
