/- The walks of LzLoosens, LzBack, LzCuts. -/
import Derived.Test.YtpkgcnklpnficaaZ12
import Derived.Test.YtpkgcnklpnficaaArg
namespace Go.Proofs.Ytpkgcnklpnficaa
open Go.ChangeShapes Go.WideShapes Go.ChangeAt Go.RowKit Go.Hd

theorem loosen_any {a : Option Addr} {n c : Nat} {l : List UInt8} {most : Int} {w : World} (hn : n = l.length) (hl : Row w a (l.map b8)) (hm : l.length ≤ 100000) :
    Calls Try.prog 35 #[.slice a n c, .int .i64 most] w (LoPost w (loosenF l most)) := by
  by_cases h : most < 0 ∨ 65536 < most
  · exact loosen_bad h
  · obtain ⟨M, rfl⟩ := Int.eq_ofNat_of_zero_le (show 0 ≤ most by omega)
    exact loosen_good hn hl hm (by omega)
theorem rloosen_any {a : Option Addr} {n c : Nat} {l : List UInt8} {most : Int} {w : World} (hn : n = l.length) (hl : Row w a (l.map b8)) (hc : n ≤ c) (hm : l.length ≤ 100000) :
    Calls Try.prog 25 #[.slice a n c, .int .i64 most] w (LoPost w (loosenF l most)) := by
  by_cases h : most < 0 ∨ 65536 < most
  · exact rloosen_bad h
  · obtain ⟨M, rfl⟩ := Int.eq_ofNat_of_zero_le (show 0 ≤ most by omega)
    exact rloosen_good hn hl hc hm (by omega)
theorem squeeze_pos (l : List UInt8) : 1 ≤ (squeezeF l).length := by
  have h := squeeze_enc l
  generalize squeezeF l = L at *
  cases h with
  | last => rw [seqL_length]; omega
  | more => rw [List.length_append, seqL_length]; omega
theorem squeeze_len (l : List UInt8) : (squeezeF l).length ≤ l.length + l.length / 255 + 2 := by
  have := enc_bound (squeeze_enc l)
  rwa [Nat.sub_zero] at this
section
variable {H : Type} {enc : TypeId × Value → H} {W : World} {base : Nat} {v0 v1 v2 v3 v4 : Value} {d0 d1 d2 d3 d4 : DataW H} {p0 p1 p2 p3 p4 : List MemPlace}
end
end Go.Proofs.Ytpkgcnklpnficaa
