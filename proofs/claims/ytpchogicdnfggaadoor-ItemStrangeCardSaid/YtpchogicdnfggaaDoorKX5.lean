/- Joined: what one statement of this layer stands on, part 5 of 17; nothing is assumed. -/
import Derived.Test.YtpchogicdnfggaaDoorProg
import Derived.Test.YtpchogicdnfggaaDoorRows
import Derived.Ground.Names2Prog
import Derived.Shelf.LaysM
import Derived.Shelf.Slices.Cells
import Derived.Shelf.Slices.ReverseS
import Derived.Shelf.Strings.Count
import Derived.Shelf.Strings.Cut
import Derived.Shelf.Strings.RuneCount
import Derived.Shelf.Strings.Search1
import Derived.Shelf.Strings.Search2
import Derived.Shelf.Strings.Search3
import Derived.Shelf.Strings.Shaped
import Derived.Shelf.Strings.Split
import Derived.Shelf.Strings.SplitShaped
import Derived.Shelf.Unicode.Decode
import Derived.Shelf.Unicode.DecodeAny
import Derived.Shelf.Unicode.DecodeSlow
import Derived.StillTailTactics
import Derived.Test.YtpchogicdnfggaaDoorKX1
import Derived.Test.YtpchogicdnfggaaDoorKX4
namespace Go.Proofs
open Go.Shelf
def Tryd.lays219_ren : Go.Shelf.Ren := ⟨fun | 219 => 106 | 217 => 122 | 225 => 123 | 224 => 124 | 267 => 125 | 266 => 130 | 314 => 131 | n => n, fun | 9 => 9 | 3 => 3 | 4 => 4 | 5 => 5 | 46 => 122 | 146 => 160 | 51 => 159 | n => n, fun | 1 => 0 | n => n⟩
theorem Tryd.lays219 : Go.Proofs.Lays.n219 Tryd.prog Tryd.lays219_ren := {
  mixed := by kernel_rfl
  f217 := Tryd.func122.trans (congrArg some (by kernel_rfl))
  f219 := Tryd.func106.trans (congrArg some (by kernel_rfl))
  f224 := Tryd.func124.trans (congrArg some (by kernel_rfl))
  f225 := Tryd.func123.trans (congrArg some (by kernel_rfl))
  f266 := Tryd.func130.trans (congrArg some (by kernel_rfl))
  f267 := Tryd.func125.trans (congrArg some (by kernel_rfl))
  f314 := Tryd.func131.trans (congrArg some (by kernel_rfl))
  t3 := Tryd.underlying3
  a3 := Tryd.isAgg3
  z3 := Tryd.sizeOf3
  v3 := Tryd.zeroValue3
  t4 := Tryd.underlying4
  a4 := Tryd.isAgg4
  z4 := Tryd.sizeOf4
  v4 := Tryd.zeroValue4
  t5 := Tryd.underlying5
  a5 := Tryd.isAgg5
  z5 := Tryd.sizeOf5
  v5 := Tryd.zeroValue5
  t9 := Tryd.underlying9
  a9 := Tryd.isAgg9
  z9 := Tryd.sizeOf9
  v9 := Tryd.zeroValue9
  t46 := Tryd.underlying122
  a46 := Tryd.isAgg122
  z46 := Tryd.sizeOf122
  v46 := Tryd.zeroValue122
  t51 := Tryd.underlying159
  a51 := Tryd.isAgg159
  z51 := Tryd.sizeOf159
  v51 := Tryd.zeroValue159
  t146 := Tryd.underlying160
  a146 := Tryd.isAgg160
  z146 := Tryd.sizeOf160
  v146 := Tryd.zeroValue160
  g1 := by kernel_rfl }
open Go.RowKit Go.Lib in
theorem Tryd.stringslite_Index_one (s : ByteArray) (c : UInt8) (w : World) :
    Calls Tryd.prog 106 #[.string s, .string ⟨#[c]⟩] w fun e w' => e = .returned (.int .i64 (Lib.indexByte s.data.toList c)) ∧ w' = w := Any.stringslite_Index_one Tryd.lays219 s c w
def Tryd.lays143_ren : Go.Shelf.Ren := ⟨fun | 143 => 87 | 219 => 106 | 217 => 122 | 225 => 123 | 224 => 124 | 267 => 125 | 266 => 130 | 314 => 131 | n => n, fun | 9 => 9 | 3 => 3 | 4 => 4 | 5 => 5 | 46 => 122 | 146 => 160 | 51 => 159 | n => n, fun | 1 => 0 | n => n⟩
theorem Tryd.lays143 : Go.Proofs.Lays.n143 Tryd.prog Tryd.lays143_ren := {
  mixed := by kernel_rfl
  f143 := Tryd.func87.trans (congrArg some (by kernel_rfl))
  f217 := Tryd.func122.trans (congrArg some (by kernel_rfl))
  f219 := Tryd.func106.trans (congrArg some (by kernel_rfl))
  f224 := Tryd.func124.trans (congrArg some (by kernel_rfl))
  f225 := Tryd.func123.trans (congrArg some (by kernel_rfl))
  f266 := Tryd.func130.trans (congrArg some (by kernel_rfl))
  f267 := Tryd.func125.trans (congrArg some (by kernel_rfl))
  f314 := Tryd.func131.trans (congrArg some (by kernel_rfl))
  t3 := Tryd.underlying3
  a3 := Tryd.isAgg3
  z3 := Tryd.sizeOf3
  v3 := Tryd.zeroValue3
  t4 := Tryd.underlying4
  a4 := Tryd.isAgg4
  z4 := Tryd.sizeOf4
  v4 := Tryd.zeroValue4
  t5 := Tryd.underlying5
  a5 := Tryd.isAgg5
  z5 := Tryd.sizeOf5
  v5 := Tryd.zeroValue5
  t9 := Tryd.underlying9
  a9 := Tryd.isAgg9
  z9 := Tryd.sizeOf9
  v9 := Tryd.zeroValue9
  t46 := Tryd.underlying122
  a46 := Tryd.isAgg122
  z46 := Tryd.sizeOf122
  v46 := Tryd.zeroValue122
  t51 := Tryd.underlying159
  a51 := Tryd.isAgg159
  z51 := Tryd.sizeOf159
  v51 := Tryd.zeroValue159
  t146 := Tryd.underlying160
  a146 := Tryd.isAgg160
  z146 := Tryd.sizeOf160
  v146 := Tryd.zeroValue160
  g1 := by kernel_rfl }
open Go.RowKit Go.Lib in
theorem Tryd.strings_Index_one (s : ByteArray) (c : UInt8) (w : World) :
    Calls Tryd.prog 87 #[.string s, .string ⟨#[c]⟩] w fun e w' => e = .returned (.int .i64 (Lib.indexByte s.data.toList c)) ∧ w' = w := Any.strings_Index_one Tryd.lays143 s c w
def Tryd.lays144_ren : Go.Shelf.Ren := ⟨fun | 144 => 64 | 143 => 87 | 219 => 106 | 217 => 122 | 225 => 123 | 224 => 124 | 267 => 125 | 266 => 130 | 314 => 131 | n => n, fun | 9 => 9 | 4 => 4 | 3 => 3 | 5 => 5 | 46 => 122 | 146 => 160 | 51 => 159 | n => n, fun | 1 => 0 | n => n⟩
theorem Tryd.lays144 : Go.Proofs.Lays.n144 Tryd.prog Tryd.lays144_ren := {
  mixed := by kernel_rfl
  f143 := Tryd.func87.trans (congrArg some (by kernel_rfl))
  f144 := Tryd.func64.trans (congrArg some (by kernel_rfl))
  f217 := Tryd.func122.trans (congrArg some (by kernel_rfl))
  f219 := Tryd.func106.trans (congrArg some (by kernel_rfl))
  f224 := Tryd.func124.trans (congrArg some (by kernel_rfl))
  f225 := Tryd.func123.trans (congrArg some (by kernel_rfl))
  f266 := Tryd.func130.trans (congrArg some (by kernel_rfl))
  f267 := Tryd.func125.trans (congrArg some (by kernel_rfl))
  f314 := Tryd.func131.trans (congrArg some (by kernel_rfl))
  t3 := Tryd.underlying3
  a3 := Tryd.isAgg3
  z3 := Tryd.sizeOf3
  v3 := Tryd.zeroValue3
  t4 := Tryd.underlying4
  a4 := Tryd.isAgg4
  z4 := Tryd.sizeOf4
  v4 := Tryd.zeroValue4
  t5 := Tryd.underlying5
  a5 := Tryd.isAgg5
  z5 := Tryd.sizeOf5
  v5 := Tryd.zeroValue5
  t9 := Tryd.underlying9
  a9 := Tryd.isAgg9
  z9 := Tryd.sizeOf9
  v9 := Tryd.zeroValue9
  t46 := Tryd.underlying122
  a46 := Tryd.isAgg122
  z46 := Tryd.sizeOf122
  v46 := Tryd.zeroValue122
  t51 := Tryd.underlying159
  a51 := Tryd.isAgg159
  z51 := Tryd.sizeOf159
  v51 := Tryd.zeroValue159
  t146 := Tryd.underlying160
  a146 := Tryd.isAgg160
  z146 := Tryd.sizeOf160
  v146 := Tryd.zeroValue160
  g1 := by kernel_rfl }
open Go.RowKit Go.Lib in
theorem Tryd.strings_Contains_one (s : ByteArray) (c : UInt8) (w : World) :
    Calls Tryd.prog 64 #[.string s, .string ⟨#[c]⟩] w fun e w' => e = .returned (.bool (decide (0 ≤ Lib.indexByte s.data.toList c))) ∧ w' = w := Any.strings_Contains_one Tryd.lays144 s c w
def Tryd.lays138_ren : Go.Shelf.Ren := ⟨fun | 138 => 105 | 195 => 119 | 218 => 121 | 143 => 87 | 219 => 106 | 217 => 122 | 225 => 123 | 224 => 124 | 267 => 125 | 266 => 130 | 314 => 131 | n => n, fun | 9 => 9 | 3 => 3 | 4 => 4 | 5 => 5 | 0 => 0 | 46 => 122 | 146 => 160 | 51 => 159 | n => n, fun | 1 => 0 | n => n⟩
theorem Tryd.lays138 : Go.Proofs.Lays.n138 Tryd.prog Tryd.lays138_ren := {
  mixed := by kernel_rfl
  f138 := Tryd.func105.trans (congrArg some (by kernel_rfl))
  f143 := Tryd.func87.trans (congrArg some (by kernel_rfl))
  f195 := Tryd.func119.trans (congrArg some (by kernel_rfl))
  f217 := Tryd.func122.trans (congrArg some (by kernel_rfl))
  f218 := Tryd.func121.trans (congrArg some (by kernel_rfl))
  f219 := Tryd.func106.trans (congrArg some (by kernel_rfl))
  f224 := Tryd.func124.trans (congrArg some (by kernel_rfl))
  f225 := Tryd.func123.trans (congrArg some (by kernel_rfl))
  f266 := Tryd.func130.trans (congrArg some (by kernel_rfl))
  f267 := Tryd.func125.trans (congrArg some (by kernel_rfl))
  f314 := Tryd.func131.trans (congrArg some (by kernel_rfl))
  t0 := Tryd.underlying0
  a0 := Tryd.isAgg0
  z0 := Tryd.sizeOf0
  v0 := Tryd.zeroValue0
  t3 := Tryd.underlying3
  a3 := Tryd.isAgg3
  z3 := Tryd.sizeOf3
  v3 := Tryd.zeroValue3
  t4 := Tryd.underlying4
  a4 := Tryd.isAgg4
  z4 := Tryd.sizeOf4
  v4 := Tryd.zeroValue4
  t5 := Tryd.underlying5
  a5 := Tryd.isAgg5
  z5 := Tryd.sizeOf5
  v5 := Tryd.zeroValue5
  t9 := Tryd.underlying9
  a9 := Tryd.isAgg9
  z9 := Tryd.sizeOf9
  v9 := Tryd.zeroValue9
  t46 := Tryd.underlying122
  a46 := Tryd.isAgg122
  z46 := Tryd.sizeOf122
  v46 := Tryd.zeroValue122
  t51 := Tryd.underlying159
  a51 := Tryd.isAgg159
  z51 := Tryd.sizeOf159
  v51 := Tryd.zeroValue159
  t146 := Tryd.underlying160
  a146 := Tryd.isAgg160
  z146 := Tryd.sizeOf160
  v146 := Tryd.zeroValue160
  g1 := by kernel_rfl }
open Go.RowKit Go.Lib in
theorem Tryd.strings_Count_one (s : ByteArray) (c : UInt8) (w : World) :
    Calls Tryd.prog 105 #[.string s, .string ⟨#[c]⟩] w fun e w' => e = .returned (.int .i64 (Lib.countByte s.data.toList c)) ∧ w' = w := Any.strings_Count_one Tryd.lays138 s c w
def Tryd.lays221_ren : Go.Shelf.Ren := ⟨fun | 221 => 86 | 268 => 104 | 138 => 105 | 143 => 87 | 195 => 119 | 197 => 120 | 218 => 121 | 219 => 106 | 260 => 129 | 217 => 122 | 225 => 123 | 224 => 124 | 267 => 125 | 266 => 130 | 314 => 131 | n => n, fun | 9 => 9 | 3 => 3 | 31 => 27 | 4 => 4 | 0 => 0 | 105 => 153 | 21 => 21 | 5 => 5 | 46 => 122 | 119 => 162 | 139 => 165 | 138 => 164 | 146 => 160 | 51 => 159 | n => n, fun | 1 => 0 | 3 => 1 | 4 => 2 | n => n⟩
theorem Tryd.lays221 : Go.Proofs.Lays.n221 Tryd.prog Tryd.lays221_ren := {
  mixed := by kernel_rfl
  f138 := Tryd.func105.trans (congrArg some (by kernel_rfl))
  f143 := Tryd.func87.trans (congrArg some (by kernel_rfl))
  f195 := Tryd.func119.trans (congrArg some (by kernel_rfl))
  f197 := Tryd.func120.trans (congrArg some (by kernel_rfl))
  f217 := Tryd.func122.trans (congrArg some (by kernel_rfl))
  f218 := Tryd.func121.trans (congrArg some (by kernel_rfl))
  f219 := Tryd.func106.trans (congrArg some (by kernel_rfl))
  f221 := Tryd.func86.trans (congrArg some (by kernel_rfl))
  f224 := Tryd.func124.trans (congrArg some (by kernel_rfl))
  f225 := Tryd.func123.trans (congrArg some (by kernel_rfl))
  f260 := Tryd.func129.trans (congrArg some (by kernel_rfl))
  f266 := Tryd.func130.trans (congrArg some (by kernel_rfl))
  f267 := Tryd.func125.trans (congrArg some (by kernel_rfl))
  f268 := Tryd.func104.trans (congrArg some (by kernel_rfl))
  f314 := Tryd.func131.trans (congrArg some (by kernel_rfl))
  t0 := Tryd.underlying0
  a0 := Tryd.isAgg0
  z0 := Tryd.sizeOf0
  v0 := Tryd.zeroValue0
  t3 := Tryd.underlying3
  a3 := Tryd.isAgg3
  z3 := Tryd.sizeOf3
  v3 := Tryd.zeroValue3
  t4 := Tryd.underlying4
  a4 := Tryd.isAgg4
  z4 := Tryd.sizeOf4
  v4 := Tryd.zeroValue4
  t5 := Tryd.underlying5
  a5 := Tryd.isAgg5
  z5 := Tryd.sizeOf5
  v5 := Tryd.zeroValue5
  t9 := Tryd.underlying9
  a9 := Tryd.isAgg9
  z9 := Tryd.sizeOf9
  v9 := Tryd.zeroValue9
  t21 := Tryd.underlying21
  a21 := Tryd.isAgg21
  z21 := Tryd.sizeOf21
  v21 := Tryd.zeroValue21
  t31 := Tryd.underlying27
  a31 := Tryd.isAgg27
  z31 := Tryd.sizeOf27
  v31 := Tryd.zeroValue27
  t46 := Tryd.underlying122
  a46 := Tryd.isAgg122
  z46 := Tryd.sizeOf122
  v46 := Tryd.zeroValue122
  t51 := Tryd.underlying159
  a51 := Tryd.isAgg159
  z51 := Tryd.sizeOf159
  v51 := Tryd.zeroValue159
  t105 := Tryd.underlying153
  a105 := Tryd.isAgg153
  z105 := Tryd.sizeOf153
  v105 := Tryd.zeroValue153
  t119 := Tryd.underlying162
  a119 := Tryd.isAgg162
  z119 := Tryd.sizeOf162
  t138 := Tryd.underlying164
  a138 := Tryd.isAgg164
  z138 := Tryd.sizeOf164
  v138 := Tryd.zeroValue164
  t139 := Tryd.underlying165
  a139 := Tryd.isAgg165
  z139 := Tryd.sizeOf165
  v139 := Tryd.zeroValue165
  t146 := Tryd.underlying160
  a146 := Tryd.isAgg160
  z146 := Tryd.sizeOf160
  v146 := Tryd.zeroValue160
  g1 := by kernel_rfl
  g3 := by kernel_rfl
  g4 := by kernel_rfl }
end Go.Proofs
set_option maxRecDepth 20000
namespace Go.Hd
open Go Go.RowKit

/-- A text, cut at each '/'. -/
def cutP : List UInt8 → List (List UInt8)
  | [] => [[]]
  | c :: s => if c = 47 then [] :: cutP s else match cutP s with
    | [] => [[c]]
    | p :: ps => (c :: p) :: ps
theorem cutP_ne (s : List UInt8) : cutP s ≠ [] := by
  cases s with
  | nil => simp [cutP]
  | cons c s =>
    unfold cutP
    split
    · simp
    · split <;> simp
theorem cutP_sep (s : List UInt8) : cutP (47 :: s) = [] :: cutP s := by
  show (if (47 : UInt8) = 47 then [] :: cutP s else _) = _
  rw [if_pos rfl]
theorem cutP_cons {c : UInt8} (h : c ≠ 47) (s : List UInt8) : ∃ p ps, cutP s = p :: ps ∧ cutP (c :: s) = (c :: p) :: ps := by
  have hn := cutP_ne s
  cases hs : cutP s with
  | nil => exact absurd hs hn
  | cons p ps =>
    refine ⟨p, ps, rfl, ?_⟩
    show (if c = 47 then [] :: cutP s else match cutP s with | [] => [[c]] | p :: ps => (c :: p) :: ps) = _
    rw [if_neg h, hs]
theorem cutP_app : ∀ (p s : List UInt8), 47 ∉ p → cutP (p ++ 47 :: s) = p :: cutP s
  | [], s, _ => cutP_sep s
  | c :: p, s, h => by
    have hc : c ≠ 47 := fun e => h (by rw [e]; simp)
    obtain ⟨q, qs, h1, h2⟩ := cutP_cons hc (p ++ 47 :: s)
    rw [cutP_app p s (fun e => h (List.mem_cons_of_mem _ e))] at h1
    injection h1 with h1 h3
    rw [List.cons_append, h2, ← h1, ← h3]
theorem cutP_one : ∀ (p : List UInt8), 47 ∉ p → cutP p = [p]
  | [], _ => rfl
  | c :: p, h => by
    have hc : c ≠ 47 := fun e => h (by rw [e]; simp)
    obtain ⟨q, qs, h1, h2⟩ := cutP_cons hc p
    rw [cutP_one p (fun e => h (List.mem_cons_of_mem _ e))] at h1
    injection h1 with h1 h3
    rw [h2, ← h1, ← h3]
/-- A part. -/
def partB (p : List UInt8) : Bool := p != [] && decide (p.length ≤ 60) && p != [46] && p != [46, 46] && !p.contains 0 && !p.contains 47
def checkF (s : List UInt8) : Int := if 200 < s.length then 8 else if (cutP s).all partB then 0 else 8
/-! The order. -/
/-- Piece by piece. -/
def lessL : List (List UInt8) → List (List UInt8) → Bool
  | _, [] => false
  | [], _ :: _ => true
  | x :: a, y :: b => if x = y then lessL a b else Op.bytesLess x y
def lessF (a b : List UInt8) : Bool := lessL (cutP a) (cutP b)
end Go.Hd
set_option maxRecDepth 20000
namespace Go.Hd
open Go Go.RowKit

theorem idx_mem : ∀ (l : List UInt8) (c : UInt8), decide (0 ≤ Lib.indexByte l c) = l.contains c
  | [], c => rfl
  | b :: l, c => by
    have ih := idx_mem l c
    have hg := Lib.indexByte_ge l c
    unfold Lib.indexByte
    by_cases h : b = c
    · subst h; simp
    · rw [if_neg (by simpa using h)]
      have h2 : ((b :: l).contains c) = l.contains c := by simp [Ne.symm h]
      rw [h2, ← ih]
      by_cases hm : Lib.indexByte l c = -1
      · rw [if_pos (by simpa using hm), hm]
      · rw [if_neg (by simpa using hm)]
        rw [decide_eq_true (by omega), decide_eq_true (by omega)]
theorem idx_at : ∀ (p s : List UInt8) (c : UInt8), c ∉ p → Lib.indexByte (p ++ c :: s) c = p.length
  | [], s, c, _ => by simp [Lib.indexByte]
  | b :: p, s, c, h => by
    have hb : b ≠ c := fun e => h (by simp [e])
    have ih := idx_at p s c (fun e => h (List.mem_cons_of_mem _ e))
    rw [List.cons_append]
    unfold Lib.indexByte
    rw [if_neg (by simpa using hb), ih, if_neg (by simp)]
    simp
theorem splitK_cut : ∀ (n : Nat) (l : List UInt8), l.length ≤ n → Lib.splitK [47] 0 (l.count 47) l = cutP l := by
  intro n
  induction n with
  | zero =>
    intro l h
    obtain rfl : l = [] := List.eq_nil_of_length_eq_zero (by omega)
    rfl
  | succ n ih =>
    intro l h
    by_cases hm : (47 : UInt8) ∈ l
    · obtain ⟨p, s, rfl, hp⟩ := List.eq_append_cons_of_mem hm
      have h1 : Lib.index (p ++ 47 :: s) [47] = (p.length : Int) := by rw [Lib.index_one]; exact idx_at p s 47 hp
      have h2 : (p ++ 47 :: s).count 47 = s.count 47 + 1 := by
        rw [List.count_append, List.count_eq_zero.2 hp, List.count_cons_self, Nat.zero_add]
      have h3 : s.length ≤ n := by simp at h; omega
      rw [h2, cutP_app p s hp]
      unfold Lib.splitK
      rw [h1, if_neg (by simp), Int.toNat_natCast, Nat.add_zero, List.take_left' rfl, List.length_singleton, ← ih s h3]
      congr 2
      rw [show p.length + 1 = (p ++ [47]).length by simp, show p ++ 47 :: s = (p ++ [47]) ++ s by simp, List.drop_left' rfl]
    · rw [List.count_eq_zero.2 hm, cutP_one l hm]; rfl
theorem str_map {L : List ByteArray} {M : List (List UInt8)} (h : L.map (·.data.toList) = M) : L = M.map str := by
  subst h
  rw [List.map_map]
  induction L with
  | nil => rfl
  | cons x L ih =>
    rw [List.map_cons, ← ih]
    congr 1
theorem splitB_cut (l : List UInt8) : Lib.splitB ⟨#[47]⟩ 0 (Lib.countB (str l) ⟨#[47]⟩) (str l) = (cutP l).map str := by
  refine str_map ?_
  rw [Lib.splitB_data]
  have h1 : Lib.countB (str l) ⟨#[47]⟩ = l.count 47 := by
    show Lib.count (str l).data.toList [47] = _
    rw [Lib.count_one, str_data]
  rw [h1, str_data]
  exact splitK_cut _ l (Nat.le_refl _)
theorem cutP_len (l : List UInt8) : (cutP l).length ≤ l.length + 1 := by
  induction l with
  | nil => simp [cutP]
  | cons c l ih =>
    by_cases hc : c = 47
    · subst hc; rw [cutP_sep]; simp; omega
    · obtain ⟨q, qs, h1, h2⟩ := cutP_cons hc l
      rw [h1] at ih
      rw [h2]; simp at ih ⊢; omega
end Go.Hd
namespace Go.Proofs.YtpchogicdnfggaaDoor
open Go.RowKit Go.Hd

theorem contains_any (l : List UInt8) (c : UInt8) (w : World) :
    Calls Tryd.prog 64 #[.string (str l), .string ⟨#[c]⟩] w fun e w' => e = .returned (.bool (l.contains c)) ∧ w = w' :=
  (Tryd.strings_Contains_one (str l) c w).mono fun e w' ⟨h1, h2⟩ => ⟨by rw [h1, str_data, idx_mem], h2.symm⟩
theorem infoStr : (Tryd.prog.info? 9).map (fun i => (i.zero, i.size, i.bytes)) = some (some (.string ByteArray.empty), 1, 16) := by kernel_rfl
theorem split_any (l : List UInt8) (w : World) (hl : l.length ≤ 1000000) :
    Calls Tryd.prog 60 #[.string (str l), .string ⟨#[47]⟩] w fun e w' => e = .returned (.slice (some ⟨w.heap.size, 0, none⟩) (cutP l).length (cutP l).length) ∧ w' = w.alloc (.cells ((cutP l).map strV).toArray 9) := by
  have hs : (str l).size = l.length := str_size l
  have hle := Lib.countB_le ⟨#[47]⟩ (by decide) (str l).size (str l) (Nat.le_refl _)
  have hlen := Lib.splitB_all ⟨#[47]⟩ (by decide) 0 _ (str l) rfl
  have c := Any.strings_genSplit_core Tryd.lays221 infoStr (str l) ⟨#[47]⟩ 0 (-1) (Lib.countB (str l) ⟨#[47]⟩ + 1) w (by rw [hs]; omega) (by decide) (Nat.zero_le _)
    (fun x c _ => (Tryd.strings_Index_one x 47 _).mono fun e w' ⟨h1, h2⟩ => ⟨by rw [h1]; congr 3; exact (Lib.index_one _ _).symm, h2⟩)
    ((Tryd.strings_Count_one (str l) 47 w).mono fun e w' ⟨h1, h2⟩ => ⟨by rw [h1]; congr 3; exact (Lib.count_one 47 (str l).data.toList).symm, h2⟩) (by decide) (by decide) (by rw [if_pos (by decide)]; omega)
  rw [Nat.add_sub_cancel, hlen] at c
  have e2 : Lib.cellsOf (Lib.splitB ⟨#[47]⟩ 0 (Lib.countB (str l) ⟨#[47]⟩) (str l)) (Lib.countB (str l) ⟨#[47]⟩ + 1) = ((Lib.splitB ⟨#[47]⟩ 0 (Lib.countB (str l) ⟨#[47]⟩) (str l)).map Value.string).toArray := by rw [← hlen]; exact Lib.cellsOf_full _
  rw [e2, ← hlen, splitB_cut, List.length_map, List.map_map] at c
  go_enter Tryd.func60, Tryd.ntmps60
  go_wp2_with fail
  refine c.mono ?_
  rintro e w' ⟨rfl, hw⟩
  go_wp2
  go_ret
  exact ⟨rfl, rfl⟩
end Go.Proofs.YtpchogicdnfggaaDoor
set_option maxRecDepth 20000
namespace Go.Hd
theorem str_toList (l : List UInt8) : (str l).toList = l := by rw [Lib.toList_data]; exact str_data l
theorem partB_not {p : List UInt8} (h : p = [] ∨ 60 < p.length ∨ p = [46] ∨ p = [46, 46]) : partB p = false := by
  unfold partB
  rcases h with rfl | h | rfl | rfl
  · rfl
  · rw [decide_eq_false (by omega)]; simp
  · rfl
  · rfl
theorem partB_mid {p : List UInt8} (h1 : p ≠ []) (h2 : p.length ≤ 60) (h3 : p ≠ [46]) (h4 : p ≠ [46, 46]) : partB p = (!p.contains 0 && !p.contains 47) := by
  unfold partB
  rw [decide_eq_true h2]
  have e1 : (p != []) = true := by simpa using h1
  have e3 : (p != [46]) = true := by simpa using h3
  have e4 : (p != [46, 46]) = true := by simpa using h4
  rw [e1, e3, e4]; simp
end Go.Hd
namespace Go.Proofs.YtpchogicdnfggaaDoor
open Go.RowKit Go.Hd

theorem part_any (p : List UInt8) (w : World) :
    Calls Tryd.prog 61 #[.string (str p)] w fun e w' => e = .returned (.bool (partB p)) ∧ w = w' := by
  have hN := Lib.hid (fun h => partB_not (p := p) h)
  have hM := Lib.hid (fun h1 h2 h3 h4 => partB_mid (p := p) h1 h2 h3 h4)
  have hc0 := contains_any p 0 w
  have hc7 := contains_any p 47 w
  have ht := Lib.hid (str_toList p)
  by_cases h1 : p = []
  · have hF := Lib.hid (hN.out (.inl h1))
    have t1 : (str p).toList = [] := by rw [ht.out, h1]
    clear h1 hN hM
    go_enter Tryd.func61, Tryd.ntmps61
    go_wp2_with fail
    go_ret
    exact ⟨by rw [hF.out]; rfl, rfl⟩
  by_cases h2 : p.length ≤ 60
  case neg =>
    have hF := Lib.hid (hN.out (.inr (.inl (by omega))))
    have t1 : ¬ (str p).toList = [] := by rw [ht.out]; exact h1
    have t2 : ¬ (p.length : Int) ≤ 60 := by omega
    clear h1 h2 hN hM
    go_enter Tryd.func61, Tryd.ntmps61
    go_wp2_with fail
    go_ret
    exact ⟨by rw [hF.out]; rfl, rfl⟩
  have t1 : ¬ (str p).toList = [] := by rw [ht.out]; exact h1
  have t2 : (p.length : Int) ≤ 60 := by omega
  by_cases h3 : p = [46]
  · have hF := Lib.hid (hN.out (.inr (.inr (.inl h3))))
    have t3 : (str p).toList = [46] := by rw [ht.out]; exact h3
    clear h1 h2 h3 hN hM
    go_enter Tryd.func61, Tryd.ntmps61
    go_wp2_with fail
    go_ret
    exact ⟨by rw [hF.out]; rfl, rfl⟩
  have t3 : ¬ (str p).toList = [46] := by rw [ht.out]; exact h3
  by_cases h4 : p = [46, 46]
  · have hF := Lib.hid (hN.out (.inr (.inr (.inr h4))))
    have t4 : (str p).toList = [46, 46] := by rw [ht.out]; exact h4
    clear h1 h2 h3 h4 hN hM
    go_enter Tryd.func61, Tryd.ntmps61
    go_wp2_with fail
    go_ret
    exact ⟨by rw [hF.out]; rfl, rfl⟩
  have t4 : ¬ (str p).toList = [46, 46] := by rw [ht.out]; exact h4
  have hF := Lib.hid (hM.out h1 h2 h3 h4)
  have e1 : Hid ((str p).toList.isEmpty = false) := by show _ = _; rw [ht.out]; simpa using h1
  have e3 : Hid (((str p).toList == [46]) = false) := by show _ = _; rw [ht.out]; simpa using h3
  have e4 : Hid (((str p).toList == [46, 46]) = false) := by show _ = _; rw [ht.out]; simpa using h4
  clear h1 h2 h3 h4 hN hM
  generalize p.contains 0 = b0 at *
  generalize p.contains 47 = b7 at *
  go_enter Tryd.func61, Tryd.ntmps61
  go_wp2_with fail
  refine hc0.mono ?_
  rintro e w1 ⟨rfl, rfl⟩
  cases b0
  · go_wp2_with fail
    refine hc7.mono ?_
    rintro e w1 ⟨rfl, rfl⟩
    go_wp2
    go_ret
    refine ⟨(congrArg (fun b => Ending.returned (Value.bool b)) ?_ : _), rfl⟩
    first | (rw [hF.out, e1.out, e3.out, e4.out]; cases b7 <;> rfl) | (rw [hF.out]; cases b7 <;> rfl)
  · go_wp2_with fail
    go_ret
    refine ⟨(congrArg (fun b => Ending.returned (Value.bool b)) ?_ : _), rfl⟩
    first | (rw [hF.out, e1.out, e3.out, e4.out]; cases b7 <;> rfl) | (rw [hF.out]; cases b7 <;> rfl)
theorem add_base (g i : Nat) : (hd (some ⟨g, 0, none⟩)).add i = ⟨g, i, none⟩ := by
  show (⟨g, 0, none⟩ : Addr).add i = _
  rw [Addr.add_mid]; simp
/-- A row of texts that a call made. -/
theorem texts_row {w : World} {ps : List (List UInt8)} : Row (w.alloc (.cells (ps.map strV).toArray 9)) (some ⟨w.heap.size, 0, none⟩) (ps.map strV) := by
  simpa using row_alloc w (ps.map strV).toArray 9 (0, 0)
set_option maxHeartbeats 1000000 in
theorem check_any (s : List UInt8) (w : World) (hs : s.length ≤ 1000000) :
    Calls Tryd.prog 33 #[.string (str s)] w fun e w' => e = .returned (.int .i64 (checkF s)) ∧ Below w.heap.size w w' := by
  by_cases h200 : 200 < s.length
  · have i1 : (200 : Int) < (s.length : Int) := by omega
    have hF : Hid (checkF s = 8) := by show _ = _; unfold checkF; rw [if_pos h200]
    clear h200 hs
    go_enter Tryd.func33, Tryd.ntmps33
    go_wp2
    go_ret
    exact ⟨by rw [hF.out]; rfl, Below.refl _ _⟩
  · have i1 : ¬ (200 : Int) < (s.length : Int) := by omega
    have hF : Hid (checkF s = if (cutP s).all partB then 0 else 8) := by show _ = _; unfold checkF; rw [if_neg h200]
    have hsp := split_any s w (by omega)
    have hcl : (cutP s).length ≤ 1000001 := Nat.le_trans (cutP_len s) (by omega)
    generalize cutP s = ps at *
    clear h200 hs
    have hrow := texts_row (w := w) (ps := ps)
    have hb := (Below.refl w.heap.size w).alloc (Nat.le_refl _) (.cells (ps.map strV).toArray 9)
    go_enter Tryd.func33, Tryd.ntmps33
    go_wp2_with fail
    refine hsp.mono ?_
    rintro e w1 ⟨rfl, rfl⟩
    generalize w.alloc (.cells (ps.map strV).toArray 9) = w1 at *
    obtain ⟨g, hg⟩ : ∃ g, g = w.heap.size := ⟨_, rfl⟩
    rw [← hg] at hrow
    have HG := Lib.hid hg
    simp only [← hg]
    clear hsp hg
    go_wp2
    go_loopw [11] (fun i wr => ∃ j : Nat, j ≤ ps.length ∧ i = .int .i64 j ∧ (ps.take j).all partB = true ∧ Hid (wr = w1)) (fun i _ => ps.length - (intOf i).toNat)
    case atStart => exact ⟨0, Nat.zero_le _, rfl, rfl, Lib.hid rfl⟩
    case round =>
      obtain ⟨j, hj, rfl, hall, hwr⟩ := hrel
      have hwr := hwr.out
      subst hwr
      by_cases hlt : j < ps.length
      · have q1 : wr.cell? ⟨g, j, none⟩ = some (strV ps[j]) := by
          have := hrow.cell (i := j) (u := strV ps[j]) (by simp [hlt])
          rw [add_base] at this; exact this
        unfold strV at q1
        have hpt := part_any ps[j] wr
        have hA : Hid ((ps.take (j + 1)).all partB = partB ps[j]) := by
          show _ = _
          rw [List.take_succ_eq_append_getElem hlt, List.all_append, hall]; simp
        have hN : Hid (partB ps[j] = false → ps.all partB = false) := fun h => by
          rcases Bool.eq_false_or_eq_true (ps.all partB) with h2 | h2
          · rw [List.all_eq_true.1 h2 _ (List.getElem_mem hlt)] at h; cases h
          · exact h2
        have j0 : (0 : Int) ≤ (j : Int) := by omega
        have j1 : (j : Int) < (ps.length : Int) := by omega
        have jb : IntKind.i64.wrap ((j : Int) + 1) = (j : Int) + 1 := IntWalk.i64_in _ (by omega)
        generalize ps[j] = p at *
        generalize partB p = bb at *
        clear hall
        go_wp2_with fail
        refine hpt.mono ?_
        rintro e w2 ⟨rfl, rfl⟩
        cases bb
        · go_wp2
          go_ret
          exact ⟨by rw [hF.out, hN.out (by first | rfl | trivial)]; rfl, hb⟩
        · go_wp2
          first
            | exact ⟨⟨j + 1, by omega, (by first | rfl | go_num | (congr 1; omega)), hA.out, (by first | exact Lib.hid rfl | exact Lib.hid trivial)⟩, by simp [intOf] <;> omega⟩
            | (refine ⟨?_, by simp [intOf] <;> omega⟩; (repeat apply Exists.intro); exact ⟨⟨j + 1, by omega, (by first | rfl | go_num | (congr 1; omega)), hA.out, (by first | exact Lib.hid rfl | exact Lib.hid trivial)⟩, rfl⟩)
      · obtain rfl : j = ps.length := by omega
        rw [List.take_length] at hall
        go_wp2
        go_ret
        exact ⟨by rw [hF.out, hall]; rfl, hb⟩
end Go.Proofs.YtpchogicdnfggaaDoor
set_option maxRecDepth 20000
namespace Go.Hd
structure Itm where
  path : List UInt8
  kind : Int
  mode : Int
  time : Int
  target : List UInt8
  size : Int
  parts : List Prt
structure ItmOk (x : Itm) : Prop where
  kind : in64 x.kind
  mode : in64 x.mode
  time : in64 x.time
  size : in64 x.size
  path : x.path.length ≤ maxLen
  target : x.target.length ≤ maxLen
  parts : ∀ p ∈ x.parts, PrtOk p
def itC (x : Itm) (a : Option Addr) (c : Nat) : List Value := [strV x.path, .int .i64 x.kind, .int .i64 x.mode, .int .i64 x.time, strV x.target, .int .i64 x.size, .slice a x.parts.length c]
def okP (p : Prt) : Bool := decide (1 ≤ p.size) && decide (p.size ≤ 8192)
def sumP : List Prt → Int
  | [] => 0
  | p :: l => p.size + sumP l
def wholeF (x : Itm) : Bool := decide (x.target = []) && (decide (x.parts.length ≤ 64) && (decide (0 ≤ x.size) && (decide (x.size ≤ 262144) && (x.parts.all okP && decide (sumP x.parts = x.size)))))
def emptyF (x : Itm) : Bool := decide (x.parts.length = 0) && decide (x.size = 0)
def linkF (x : Itm) : Bool := !decide (x.target = []) && (decide (x.target.length ≤ 200) && !x.target.contains 0)
def fitsF (x : Itm) : Bool := if x.kind = 1 then wholeF x else if x.kind = 2 then emptyF x && decide (x.target = []) else if x.kind = 3 then emptyF x && linkF x else false
def modeF (x : Itm) : Bool := decide (0 ≤ x.mode) && (decide (x.mode ≤ 4095) && (decide (-1099511627776 ≤ x.time) && decide (x.time ≤ 1099511627776)))
def checkI (x : Itm) : Int := if checkF x.path ≠ 0 then checkF x.path else if modeF x = true then (if fitsF x = true then 0 else 2) else 2
theorem str_nil (t : List UInt8) : ((str t).toList == ([] : List UInt8)) = decide (t = []) := by
  cases t with
  | nil => simp [str]
  | cons a l => simp [str]
theorem sumP_snoc : ∀ (l : List Prt) (p : Prt), sumP (l ++ [p]) = sumP l + p.size
  | [], p => by simp [sumP]
  | q :: l, p => by rw [List.cons_append, sumP, sumP_snoc l p, sumP]; omega
theorem sumP_bound : ∀ (l : List Prt), l.all okP = true → 0 ≤ sumP l ∧ sumP l ≤ 8192 * l.length
  | [], _ => by simp [sumP]
  | p :: l, h => by
    rw [List.all_cons, Bool.and_eq_true] at h
    have ih := sumP_bound l h.2
    have hp := h.1
    unfold okP at hp
    simp at hp
    rw [sumP, List.length_cons]
    constructor <;> omega
theorem str_nil2 (t : List UInt8) : (str t).toList.isEmpty = decide (t = []) := by
  cases t with
  | nil => simp [str]
  | cons a l => simp [str]
end Go.Hd
namespace Go.Proofs.YtpchogicdnfggaaDoor
open Go.RowKit Go.Hd
theorem prts33I {l : List Prt} (hok : ∀ x ∈ l, PrtOk x) : ∀ x ∈ l.map prtC, x.length = 33 := fun x hx => by
  obtain ⟨y, hy, rfl⟩ := List.mem_map.1 hx
  exact prtC_len (hok y hy)
theorem empty_any {x : Itm} {a : Option Addr} {c : Nat} {w : World} : Calls Tryd.prog 63 #[.agg (List.toArray (itC x a c))] w fun e w' => e = .returned (.bool (emptyF x)) ∧ Below w.heap.size w w' := by
  have hE : Hid (emptyF x = (decide (x.parts.length = 0) && decide (x.size = 0))) := rfl
  unfold itC strV
  generalize emptyF x = E at *
  generalize str x.path = sp at *
  generalize str x.target = st at *
  generalize x.parts.length = n at *
  generalize x.size = z at *
  by_cases h1 : n = 0
  · subst h1
    by_cases h2 : z = 0
    · subst h2
      have hT : Hid (E = true) := hE.out
      go_enter Tryd.func63, Tryd.ntmps63
      go_wp2
      go_ret
      exact ⟨by rw [hT.out] <;> rfl, (Below.refl _ _).alloc (Nat.le_refl _) _⟩
    · have e2 : (z == 0) = false := by simpa using h2
      have hT : Hid (E = false) := by show _ = _; rw [hE.out]; simp [h2]
      clear hE
      go_enter Tryd.func63, Tryd.ntmps63
      go_wp2
      go_ret
      exact ⟨by rw [hT.out] <;> rfl, (Below.refl _ _).alloc (Nat.le_refl _) _⟩
  · have e1 : ((n : Int) == 0) = false := by simp; omega
    have hT : Hid (E = false) := by show _ = _; rw [hE.out]; simp [h1]
    clear hE
    go_enter Tryd.func63, Tryd.ntmps63
    go_wp2
    go_ret
    exact ⟨by rw [hT.out] <;> rfl, (Below.refl _ _).alloc (Nat.le_refl _) _⟩
attribute [local go_sem ↓] h_ldPA h_stPA h_alPA
attribute [local go_sem] r_ldPA r_stPA r_alPA
set_option maxHeartbeats 2000000 in
theorem whole_any {x : Itm} {a : Option Addr} {c : Nat} {w : World} (hr : Row w a (x.parts.map prtC).flatten) (hok : ItmOk x) (hl : x.parts.length ≤ 100000) : Calls Tryd.prog 62 #[.agg (List.toArray (itC x a c))] w fun e w' => e = .returned (.bool (wholeF x)) ∧ Below w.heap.size w w' := by
  have zp := zPA_size
  have hE : Hid (wholeF x = (decide (x.target = []) && (decide (x.parts.length ≤ 64) && (decide (0 ≤ x.size) && (decide (x.size ≤ 262144) && (x.parts.all okP && decide (sumP x.parts = x.size))))))) := rfl
  have n1 := str_nil x.target
  have n2 := str_nil2 x.target
  have hpo := hok.parts
  have hb0 : Below w.heap.size w (w.alloc (.cells (List.toArray (itC x a c)) 24)) := (Below.refl _ _).alloc (Nat.le_refl _) _
  have hr0 := hr.below hb0
  clear hr hok
  unfold itC strV at *
  generalize wholeF x = E at *
  generalize str x.path = sp at *
  generalize str x.target = st at *
  generalize hTb : decide (x.target = []) = Tb at *
  clear hTb
  generalize x.size = z at *
  generalize x.parts = l at *
  cases Tb
  · have hT : Hid (E = false) := by show _ = _; rw [hE.out]; rfl
    clear hE
    go_enter Tryd.func62, Tryd.ntmps62
    go_wp2
    go_ret
    exact ⟨by rw [hT.out] <;> rfl, hb0⟩
  · by_cases h1 : l.length ≤ 64
    case neg =>
      have e1 : (64 : Int) < (l.length : Int) := by omega
      have hT : Hid (E = false) := by show _ = _; rw [hE.out]; simp [h1]
      clear hE
      go_enter Tryd.func62, Tryd.ntmps62
      go_wp2
      go_ret
      exact ⟨by rw [hT.out] <;> rfl, hb0⟩
    case pos =>
    have e1 : ¬ (64 : Int) < (l.length : Int) := by omega
    by_cases h2 : 0 ≤ z
    case neg =>
      have e2 : z < 0 := by omega
      have hT : Hid (E = false) := by show _ = _; rw [hE.out]; simp [h2]
      clear hE
      go_enter Tryd.func62, Tryd.ntmps62
      go_wp2
      go_ret
      exact ⟨by rw [hT.out] <;> rfl, hb0⟩
    case pos =>
    have e2 : ¬ z < 0 := by omega
    by_cases h3 : z ≤ 262144
    case neg =>
      have e3 : 262144 < z := by omega
      have hT : Hid (E = false) := by show _ = _; rw [hE.out]; simp [h3]
      clear hE
      go_enter Tryd.func62, Tryd.ntmps62
      go_wp2
      go_ret
      exact ⟨by rw [hT.out] <;> rfl, hb0⟩
    case pos =>
    have e3 : ¬ 262144 < z := by omega
    have hF : Hid (E = (l.all okP && decide (sumP l = z))) := by show _ = _; rw [hE.out]; simp [h1, h2, h3]
    clear hE h1
    go_enter Tryd.func62, Tryd.ntmps62
    go_upto_region 5 with (fail)
    have hBx : Blk (w.alloc (.cells #[.string sp, .int .i64 x.kind, .int .i64 x.mode, .int .i64 x.time, .string st, .int .i64 z, .slice a l.length c] 24)) w.heap.size 24 [.string sp, .int .i64 x.kind, .int .i64 x.mode, .int .i64 x.time, .string st, .int .i64 z, .slice a l.length c] := Blk.new _ _ _
    generalize w.alloc (.cells #[.string sp, .int .i64 x.kind, .int .i64 x.mode, .int .i64 x.time, .string st, .int .i64 z, .slice a l.length c] 24) = W at *
    have HR0 := Lib.hid hr0
    have HB0 := Lib.hid hb0
    have HBx := Lib.hid hBx
    have HL := Lib.hid hl
    clear hr0 hb0 hBx hl
    go_wp2
    go_loopw [3, 28] (fun u i wr => ∃ j : Nat, j ≤ l.length ∧ i = .int .i64 j ∧ u = .int .i64 (sumP (l.take j)) ∧ Hid ((l.take j).all okP = true) ∧ Hid (Below W.heap.size W wr)) (fun _ i _ => l.length - (intOf i).toNat)
    case atStart => exact ⟨0, Nat.zero_le _, rfl, rfl, Lib.hid rfl, Lib.hid (Below.refl _ _)⟩
    case round =>
      obtain ⟨j, hj, rfl, rfl, hA, hbr⟩ := hrel
      have j0 : (0 : Int) ≤ (j : Int) := by omega
      have jb : IntKind.i64.wrap ((j : Int) + 1) = (j : Int) + 1 := IntWalk.i64_in _ (by have := HL.out; omega)
      have hsb := sumP_bound _ hA.out
      have hbw := HB0.out.trans (hbr.out.mono HB0.out.size)
      rw [List.length_take] at hsb
      by_cases hlt : j < l.length
      · have j1 : (j : Int) < (l.length : Int) := by omega
        have hr2 := HR0.out.below hbr.out
        have s1 := hr2.elemSome (s := 33) (prts33I hpo) (by decide) (i := j) (by simpa using hlt)
        have hp := hpo _ (List.getElem_mem hlt)
        have q1 := ldOp_at (P := Tryd.prog) (ty := 65) (hr2.elem (s := 33) (prts33I hpo) (i := j) (c := prtC l[j]) (by simp [hlt])) Tryd.underlying65 rfl (by rw [prtC_len hp]; exact sizePA)
        have y1 : (List.toArray (prtC l[j])).size = 33 := by simpa using prtC_len hp
        have y2 : OneC (List.toArray (prtC l[j])) := all_oneCell_toArray (prtC_one _)
        have c32 := prtC_32 hp
        have hT : Hid (l.take (j + 1) = l.take j ++ [l[j]]) := List.take_succ_eq_append_getElem hlt
        have hI : Hid (l[j] ∈ l) := List.getElem_mem hlt
        generalize l[j] = p at *
        have hXB := Blk.new wr 65 (List.toArray (prtC p))
        have hbx : Below wr.heap.size wr (wr.alloc (.cells (List.toArray (prtC p)) 65)) := (Below.refl _ _).alloc (Nat.le_refl _) _
        clear hr2
        go_upto_region 7 with (fail)
        have c5 : (wr.alloc (.cells (List.toArray (prtC p)) 65)).cell? ⟨wr.heap.size, 32, none⟩ = some (.int .i64 p.size) := by
          have hb : Blk (wr.alloc (.cells (List.toArray (prtC p)) 65)) wr.heap.size 65 (prtC p) := by simpa using hXB
          exact hb.cell c32
        have hbx2 := hbw.trans (hbx.mono hbw.size)
        have hbx3 := hbr.out.trans (hbx.mono hbr.out.size)
        clear hXB q1 y1 y2 c32 s1 hp hbx
        generalize wr.alloc (.cells (List.toArray (prtC p)) 65) = w5 at *
        generalize wr.heap.size = qx at *
        by_cases g1 : p.size < 1
        · have hT2 : Hid (E = false) := by
            show _ = _
            rw [hF.out]
            have : l.all okP = false := by
              rw [Bool.eq_false_iff]; intro h
              have := List.all_eq_true.1 h _ hI.out
              unfold okP at this; simp at this; omega
            rw [this]; rfl
          clear hF
          go_wp2
          go_ret
          exact ⟨by rw [hT2.out] <;> rfl, hbx2⟩
        · by_cases g2 : 8192 < p.size
          · have hT2 : Hid (E = false) := by
              show _ = _
              rw [hF.out]
              have : l.all okP = false := by
                rw [Bool.eq_false_iff]; intro h
                have := List.all_eq_true.1 h _ hI.out
                unfold okP at this; simp at this; omega
              rw [this]; rfl
            clear hF
            go_wp2
            go_ret
            exact ⟨by rw [hT2.out] <;> rfl, hbx2⟩
          · have hA2 : Hid ((l.take (j + 1)).all okP = true) := by
              show _ = _
              rw [hT.out, List.all_append, hA.out]; simp [okP]; omega
            have hS2 : Hid (sumP (l.take (j + 1)) = sumP (l.take j) + p.size) := by show _ = _; rw [hT.out, sumP_snoc]
            have sb : IntKind.i64.wrap (sumP (l.take j) + p.size) = sumP (l.take j) + p.size := IntWalk.i64_in _ (by have := HL.out; omega)
            have hbx3h := Lib.hid hbx3
            generalize sumP (l.take j) = S at *
            clear hbx2 hbx3 hI hT hF
            go_wp2
            first
              | exact ⟨⟨j + 1, by omega, (by first | rfl | go_num | (congr 1; omega)), (by first | rw [hS2.out] | (rw [hS2.out]; rfl)), hA2, hbx3h⟩, by simp [intOf] <;> omega⟩
              | (refine ⟨?_, by simp [intOf] <;> omega⟩; (repeat apply Exists.intro); exact ⟨⟨j + 1, by omega, (by first | rfl | go_num | (congr 1; omega)), (by first | rw [hS2.out] | (rw [hS2.out]; rfl)), hA2, hbx3h⟩, rfl⟩)
      · obtain rfl : j = l.length := by omega
        have j1 : ¬ (l.length : Int) < (l.length : Int) := by omega
        have hA2 := hA.out
        rw [List.take_length] at hA2 ⊢
        have hF2 : Hid (E = decide (sumP l = z)) := by show _ = _; rw [hF.out, hA2]; rfl
        have c5 : wr.cell? ⟨w.heap.size, 5, none⟩ = some (.int .i64 z) := (HBx.out.below hbr.out).cell rfl
        clear hA2 hF hsb
        generalize sumP l = S at *
        by_cases hS : S = z
        · have eS : (S == z) = true := by simpa using hS
          have hT2 : Hid (E = true) := by show _ = _; rw [hF2.out]; simp [hS]
          clear hS hF2
          go_wp2
          go_ret
          exact ⟨by rw [hT2.out] <;> rfl, hbw⟩
        · have eS : (S == z) = false := by simpa using hS
          have hT2 : Hid (E = false) := by show _ = _; rw [hF2.out]; simp [hS]
          clear hF2
          go_wp2
          go_ret
          exact ⟨by rw [hT2.out] <;> rfl, hbw⟩
end Go.Proofs.YtpchogicdnfggaaDoor
set_option maxRecDepth 20000
namespace Go.Proofs.YtpchogicdnfggaaDoor
open Go.RowKit Go.Hd
set_option maxHeartbeats 2000000 in
theorem fits_any {x : Itm} {a : Option Addr} {c : Nat} {w : World} (hr : Row w a (x.parts.map prtC).flatten) (hok : ItmOk x) (hl : x.parts.length ≤ 100000) : Calls Tryd.prog 34 #[.agg (List.toArray (itC x a c))] w fun e w' => e = .returned (.bool (fitsF x)) ∧ Below w.heap.size w w' := by
  have hE : Hid (fitsF x = if x.kind = 1 then wholeF x else if x.kind = 2 then emptyF x && decide (x.target = []) else if x.kind = 3 then emptyF x && linkF x else false) := rfl
  have hL : Hid (linkF x = (!decide (x.target = []) && (decide (x.target.length ≤ 200) && !x.target.contains 0))) := rfl
  have hb0 : Below w.heap.size w (w.alloc (.cells (List.toArray (itC x a c)) 24)) := (Below.refl _ _).alloc (Nat.le_refl _) _
  have hw := whole_any (c := c) (hr.below hb0) hok hl
  have he := fun w' => empty_any (x := x) (a := a) (c := c) (w := w')
  have hc := fun w' => contains_any x.target 0 w'
  have n1 := str_nil x.target
  have n2 := str_nil2 x.target
  have n3 : (str x.target).size = x.target.length := str_size _
  clear hr hok hl
  unfold itC strV at *
  generalize fitsF x = F at *
  generalize linkF x = LF at *
  generalize wholeF x = WF at *
  generalize emptyF x = EF at *
  generalize x.target.contains 0 = CF at *
  generalize str x.path = sp at *
  generalize str x.target = st at *
  generalize decide (x.target = []) = Tb at *
  generalize x.target.length = tl at *
  generalize x.parts.length = pl at *
  generalize x.kind = k at *
  generalize x.mode = md at *
  generalize x.time = tm at *
  generalize x.size = sz at *
  by_cases h1 : k = 1
  · subst h1
    have hT : Hid (F = WF) := hE.out
    clear hE
    go_enter Tryd.func34, Tryd.ntmps34
    go_wp2_with fail
    refine hw.mono ?_
    rintro e w2 ⟨rfl, hb2⟩
    go_wp2
    go_ret
    exact ⟨by rw [hT.out] <;> rfl, hb0.trans (hb2.mono hb0.size)⟩
  have e1 : (k == 1) = false := by simpa using h1
  by_cases h2 : k = 2
  · subst h2
    have hT : Hid (F = (EF && Tb)) := hE.out
    clear hE h1
    go_enter Tryd.func34, Tryd.ntmps34
    go_wp2_with fail
    refine (he _).mono ?_
    rintro e w2 ⟨rfl, hb2⟩
    have d4 : w2.cell? ⟨w.heap.size, 4, none⟩ = some (.string st) := ((Blk.new w 24 (List.toArray [.string sp, .int .i64 2, .int .i64 md, .int .i64 tm, .string st, .int .i64 sz, .slice a pl c])).below hb2).cell rfl
    cases EF
    · go_wp2
      go_ret
      exact ⟨by rw [hT.out] <;> rfl, hb0.trans (hb2.mono hb0.size)⟩
    · cases Tb
      · go_wp2
        go_ret
        exact ⟨by rw [hT.out] <;> rfl, hb0.trans (hb2.mono hb0.size)⟩
      · go_wp2
        go_ret
        exact ⟨by rw [hT.out] <;> rfl, hb0.trans (hb2.mono hb0.size)⟩
  have e2 : (k == 2) = false := by simpa using h2
  by_cases h3 : k = 3
  · subst h3
    have hT : Hid (F = (EF && LF)) := hE.out
    clear hE h1 h2
    go_enter Tryd.func34, Tryd.ntmps34
    go_wp2_with fail
    refine (he _).mono ?_
    rintro e w2 ⟨rfl, hb2⟩
    have d4 : w2.cell? ⟨w.heap.size, 4, none⟩ = some (.string st) := ((Blk.new w 24 (List.toArray [.string sp, .int .i64 3, .int .i64 md, .int .i64 tm, .string st, .int .i64 sz, .slice a pl c])).below hb2).cell rfl
    cases EF
    · go_wp2
      go_ret
      exact ⟨by rw [hT.out] <;> rfl, hb0.trans (hb2.mono hb0.size)⟩
    · cases Tb
      · by_cases h4 : tl ≤ 200
        · have e4 : (tl : Int) ≤ 200 := by omega
          have hT2 : Hid (F = !CF) := by show _ = _; rw [hT.out, hL.out]; simp [h4]
          clear hT hL h4
          go_wp2_with fail
          refine (hc _).mono ?_
          rintro e w3 ⟨rfl, hw3⟩
          subst hw3
          cases CF
          · go_wp2
            go_ret
            exact ⟨by rw [hT2.out] <;> rfl, hb0.trans (hb2.mono hb0.size)⟩
          · go_wp2
            go_ret
            exact ⟨by rw [hT2.out] <;> rfl, hb0.trans (hb2.mono hb0.size)⟩
        · have e4 : ¬ (tl : Int) ≤ 200 := by omega
          have hT2 : Hid (F = false) := by show _ = _; rw [hT.out, hL.out]; simp [h4]
          clear hT hL h4
          go_wp2
          go_ret
          exact ⟨by rw [hT2.out] <;> rfl, hb0.trans (hb2.mono hb0.size)⟩
      · have hT2 : Hid (F = false) := by show _ = _; rw [hT.out, hL.out]; rfl
        clear hT hL
        go_wp2
        go_ret
        exact ⟨by rw [hT2.out] <;> rfl, hb0.trans (hb2.mono hb0.size)⟩
  have e3 : (k == 3) = false := by simpa using h3
  have hT : Hid (F = false) := by show _ = _; rw [hE.out]; simp [h1, h2, h3]
  clear hE h1 h2 h3
  go_enter Tryd.func34, Tryd.ntmps34
  go_wp2
  go_ret
  exact ⟨by rw [hT.out] <;> rfl, hb0⟩
theorem sizeIT : (Tryd.prog.info? 24).map (·.size) = some 7 := by kernel_rfl
section
variable (ρ : Operand → Value) (dst : Option Tmp) (ty : TypeId) (pos : String) (after : Array Edge) (guard : Option (Nat × Bool))
theorem h_ldIT (x : Operand) : execOp ρ { dst, op := .load 24 x, type := ty, pos, after, guard } = (do pure (.value (← ldOp 24 (ρ x)))) := rfl
end
attribute [local go_sem ↓] h_ldIT
set_option maxHeartbeats 2000000 in
theorem icheck_any {x : Itm} {a : Option Addr} {c : Nat} {w : World} (hr : Row w a (x.parts.map prtC).flatten) (hok : ItmOk x) (hl : x.parts.length ≤ 100000) (hp : x.path.length ≤ 1000000) : Calls Tryd.prog 11 #[.agg (List.toArray (itC x a c))] w fun e w' => e = .returned (.int .i64 (checkI x)) ∧ Below w.heap.size w w' := by
  have hE : Hid (checkI x = if checkF x.path ≠ 0 then checkF x.path else if modeF x = true then (if fitsF x = true then 0 else 2) else 2) := rfl
  have hM : Hid (modeF x = (decide (0 ≤ x.mode) && (decide (x.mode ≤ 4095) && (decide (-1099511627776 ≤ x.time) && decide (x.time ≤ 1099511627776))))) := rfl
  have hb0 : Below w.heap.size w (w.alloc (.cells (List.toArray (itC x a c)) 24)) := (Below.refl _ _).alloc (Nat.le_refl _) _
  have hpc := check_any x.path (w.alloc (.cells (List.toArray (itC x a c)) 24)) hp
  have hft := fun w' (hb : Below w.heap.size w w') => fits_any (c := c) (hr.below hb) hok hl
  clear hr hok hl hp
  unfold itC strV at *
  generalize checkI x = F at *
  generalize modeF x = MF at *
  generalize fitsF x = FF at *
  generalize checkF x.path = PF at *
  generalize str x.path = sp at *
  generalize str x.target = st at *
  generalize x.parts.length = pl at *
  generalize x.kind = k at *
  generalize x.mode = md at *
  generalize x.time = tm at *
  generalize x.size = sz at *
  go_enter Tryd.func11, Tryd.ntmps11
  go_wp2_with fail
  refine hpc.mono ?_
  rintro e w2 ⟨rfl, hb2⟩
  have hB2 := (Blk.new w 24 (List.toArray [.string sp, .int .i64 k, .int .i64 md, .int .i64 tm, .string st, .int .i64 sz, .slice a pl c])).below hb2
  have d2 : w2.cell? ⟨w.heap.size, 2, none⟩ = some (.int .i64 md) := hB2.cell rfl
  have d3 : w2.cell? ⟨w.heap.size, 3, none⟩ = some (.int .i64 tm) := hB2.cell rfl
  have hbw := hb0.trans (hb2.mono hb0.size)
  have hft2 := hft _ hbw
  clear hft hb2 hb0 hpc
  by_cases h0 : PF = 0
  case neg =>
    have e0 : (PF != 0) = true := by simpa using h0
    have hT : Hid (F = PF) := by show _ = _; rw [hE.out, if_pos h0]
    clear hE h0
    go_wp2
    go_ret
    exact ⟨by rw [hT.out] <;> rfl, hbw⟩
  case pos =>
  subst h0
  have hE2 : Hid (F = if MF = true then (if FF = true then 0 else 2) else 2) := by show _ = _; rw [hE.out, if_neg (by simp)]
  clear hE
  by_cases h1 : 0 ≤ md
  case neg =>
    have e1 : md < 0 := by omega
    have hT : Hid (F = 2) := by show _ = _; rw [hE2.out, hM.out]; simp [h1]
    clear hE2 hM
    go_wp2
    go_ret
    exact ⟨by rw [hT.out] <;> rfl, hbw⟩
  case pos =>
  have e1 : ¬ md < 0 := by omega
  by_cases h2 : md ≤ 4095
  case neg =>
    have e2 : 4095 < md := by omega
    have hT : Hid (F = 2) := by show _ = _; rw [hE2.out, hM.out]; simp [h2]
    clear hE2 hM
    go_wp2
    go_ret
    exact ⟨by rw [hT.out] <;> rfl, hbw⟩
  case pos =>
  have e2 : ¬ 4095 < md := by omega
  by_cases h3 : -1099511627776 ≤ tm
  case neg =>
    have e3 : tm < -1099511627776 := by omega
    have hT : Hid (F = 2) := by show _ = _; rw [hE2.out, hM.out]; simp [h3]
    clear hE2 hM
    go_wp2
    go_ret
    exact ⟨by rw [hT.out] <;> rfl, hbw⟩
  case pos =>
  have e3 : ¬ tm < -1099511627776 := by omega
  by_cases h4 : tm ≤ 1099511627776
  case neg =>
    have e4 : 1099511627776 < tm := by omega
    have hT : Hid (F = 2) := by show _ = _; rw [hE2.out, hM.out]; simp [h4]
    clear hE2 hM
    go_wp2
    go_ret
    exact ⟨by rw [hT.out] <;> rfl, hbw⟩
  case pos =>
  have e4 : ¬ 1099511627776 < tm := by omega
  have hT : Hid (F = if FF = true then 0 else 2) := by show _ = _; rw [hE2.out, hM.out]; simp [h1, h2, h3, h4]
  have ql := ldOp_all (P := Tryd.prog) (ty := 24) hB2 Tryd.underlying24 rfl (by exact sizeIT)
  clear hE2 hM h1 h2 h3 h4
  go_wp2_with fail
  refine hft2.mono ?_
  rintro e w3 ⟨rfl, hb3⟩
  cases FF
  · go_wp2
    go_ret
    exact ⟨by rw [hT.out] <;> rfl, hbw.trans (hb3.mono hbw.size)⟩
  · go_wp2
    go_ret
    exact ⟨by rw [hT.out] <;> rfl, hbw.trans (hb3.mono hbw.size)⟩
end Go.Proofs.YtpchogicdnfggaaDoor
set_option maxRecDepth 20000
namespace Go.Proofs.YtpchogicdnfggaaDoor
open Go.RowKit Go.Hd
attribute [local go_sem ↓] h_ldV h_stV h_alV
attribute [local go_sem] r_ldV r_stV r_alV

set_option maxHeartbeats 1000000 in
theorem small_any {w0 w : World} {cs : List Value} {v : PV} (h : VAt w0 cs v) (hbw : Below w0.heap.size w0 w) :
    Calls Tryd.prog 21 #[.agg cs.toArray] w fun e w' => ∃ cs', e = .returned (.agg (List.toArray cs')) ∧ VAtP (fun b => w.heap.size ≤ b) w' cs' (smallF v) ∧ Below w.heap.size w w' := by
  have hsz := hbw.size
  have x6 : cs.toArray.size = 6 := by simpa using h.len
  have zs := zV_size
  obtain ⟨W, hW⟩ : ∃ W, W = ((w.alloc (.cells cs.toArray 30)).alloc (.cells zV 30)).alloc (.cells #[.int .i64 60] 3) := ⟨_, rfl⟩
  have hbW : Below w.heap.size w W := by rw [hW]; exact (((Below.refl _ _).alloc (Nat.le_refl _) _).alloc (by simp) _).alloc (by simp; omega) _
  have A0 : Blk W w.heap.size 30 cs := by rw [hW]; simpa using ((Blk.new w 30 cs.toArray).alloc (.cells zV 30)).alloc (.cells #[.int .i64 60] 3)
  have R0 : Blk W (w.heap.size + 1) 30 zV.toList := by
    have := (Blk.new (w.alloc (.cells cs.toArray 30)) 30 zV).alloc (.cells #[.int .i64 60] 3)
    rw [drew_alloc_size, ← hW] at this
    exact this
  have L0 : Blk W (w.heap.size + 2) 3 [.int .i64 ((60 : Nat) : Int)] := by
    have := Blk.new ((w.alloc (.cells cs.toArray 30)).alloc (.cells zV 30)) 3 #[.int .i64 60]
    rw [drew_alloc_size, drew_alloc_size, ← hW] at this
    exact this
  have hf := few_any h 60 60 W (w.heap.size + 2) (by decide) (by decide) (by decide) (hbw.trans (hbW.mono hsz)) (by omega) L0
  have q1 : (ldOp 30 (.pointer (some ⟨w.heap.size, 0, none⟩))).run Tryd.prog W = .ok (.agg cs.toArray) W := ldOp_all (P := Tryd.prog) (ty := 30) A0 Tryd.underlying30 rfl (by rw [h.len]; exact sizeV)
  rw [hW] at hf q1
  go_enter Tryd.func21, Tryd.ntmps21
  go_wp2_with fail
  refine hf.mono ?_
  rintro e w1 ⟨cs', rfl, hv, hl, hg⟩
  rw [← hW] at hg hv
  have x6' : (List.toArray cs').size = 6 := by simpa using hv.len
  have R1 := R0.grown hg (by omega)
  have HST := st_row R1 (by rfl) (List.toArray cs') x6' (all_oneCell_toArray hv.one)
  have HB2 := setRow_blk R1 cs'
  have HG2 := setRow_gr w1 (w.heap.size + 1) (List.toArray cs')
  have hWs := hbW.size
  have hW3 : W.heap.size = w.heap.size + 3 := by rw [hW]; simp
  have HF : Hid (VAtP (fun b => w.heap.size ≤ b) (w1.setRow (w.heap.size + 1) (List.toArray cs')) cs' (smallF v) ∧ Below w.heap.size w (w1.setRow (w.heap.size + 1) (List.toArray cs'))) := by
    refine ⟨(hv.same (w' := w1.setRow (w.heap.size + 1) _) (fun z hz hlt => HG2.block z hlt (by simp; omega))).mono (fun z hz _ => by omega), ?_⟩
    have h1 : Below w.heap.size w w1 := Below.grown hbW hg hWs (fun k hk => by cases hk; omega)
    exact Below.grown h1 HG2 h1.size (fun k hk => by cases hk; omega)
  clear hv hl hg R1 R0 A0 L0 HG2 q1 hW hbW hf hW3 hWs
  go_wp2
  obtain ⟨h1, h2⟩ := HF.out
  refine bodyPost_ret (results_cell_row (fn := Tryd.f21) (by rfl) _ _ (w.heap.size + 1) 30 _ (0, 0) _ (by rfl) HB2 Tryd.underlying30 rfl (by rw [x6']; exact sizeV)) rfl ⟨_, rfl, h1, h2⟩

/-! Values compared. -/
mutual
def sameV : PV → PV → Bool
  | .mk k n b t ks l, .mk k' n' b' t' ks' l' => k == k' && (k != 3 || n == n') && (k != 4 || b == b') && (k != 5 || t == t') && (k != 7 || ks == ks') && ((k != 6 && k != 7) || sameL l l')
def sameL : List PV → List PV → Bool
  | [], [] => true
  | x :: l, y :: m => sameV x y && sameL l m
  | _, _ => false
end
theorem sameL_len : ∀ {l m : List PV}, sameL l m = true → l.length = m.length
  | [], [], _ => rfl
  | [], y :: m, h => by simp [sameL] at h
  | x :: l, [], h => by simp [sameL] at h
  | x :: l, y :: m, h => by
    simp only [sameL, Bool.and_eq_true] at h
    rw [List.length_cons, List.length_cons, sameL_len h.2]
theorem sameL_take : ∀ {l m : List PV} (j : Nat) (h1 : j < l.length) (h2 : j < m.length), sameL (l.take (j + 1)) (m.take (j + 1)) = (sameL (l.take j) (m.take j) && sameV l[j] m[j])
  | [], _, j, h1, _ => by simp at h1
  | _ :: _, [], j, _, h2 => by simp at h2
  | x :: l, y :: m, 0, _, _ => by simp [sameL]
  | x :: l, y :: m, j + 1, h1, h2 => by
    have := sameL_take (l := l) (m := m) j (by simpa using h1) (by simpa using h2)
    simp only [List.take_succ_cons, sameL, List.getElem_cons_succ, this, Bool.and_assoc]
theorem sameL_stop {l m : List PV} {j : Nat} (h1 : j < l.length) (h2 : j < m.length) (h : sameV l[j] m[j] = false) : sameL l m = false := by
  induction l generalizing m j with
  | nil => simp at h1
  | cons x l ih =>
    cases m with
    | nil => simp at h2
    | cons y m =>
      cases j with
      | zero => simp at h; simp [sameL, h]
      | succ j => simp only [List.getElem_cons_succ] at h; simp [sameL, ih (by simpa using h1) (by simpa using h2) h]
theorem sameL_diff {l m : List PV} (h : l.length ≠ m.length) : sameL l m = false := by
  rcases Bool.eq_false_or_eq_true (sameL l m) with h2 | h2
  · exact absurd (sameL_len h2) h
  · exact h2
end Go.Proofs.YtpchogicdnfggaaDoor
set_option maxRecDepth 20000
namespace Go.Proofs.YtpchogicdnfggaaDoor
open Go.RowKit Go.Hd
attribute [local go_sem ↓] h_ldV h_stV h_alV
attribute [local go_sem] r_ldV r_stV r_alV

theorem sameV_mk (k n k' n' : Int) (b t b' t' : List UInt8) (ks ks' : List (List UInt8)) (l l' : List PV) : sameV (.mk k n b t ks l) (.mk k' n' b' t' ks' l') = (k == k' && (k != 3 || n == n') && (k != 4 || b == b') && (k != 5 || t == t') && (k != 7 || ks == ks') && ((k != 6 && k != 7) || sameL l l')) := by
  simp only [sameV]
theorem keys_stop {ks ks' : List (List UInt8)} {j : Nat} (h1 : j < ks.length) (h2 : j < ks'.length) (h : ks[j] ≠ ks'[j]) : ks ≠ ks' := by
  rintro rfl; exact h rfl
end Go.Proofs.YtpchogicdnfggaaDoor
