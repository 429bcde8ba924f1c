/- Layer 20: what the library's functions on texts answer, in this layer's words. -/
import Derived.Test.YtcanlgcifnjfaaaDoorShelf
import Derived.Test.YtcanlgcifnjfaaaDoorPl20
import Derived.Test.YtcanlgcifnjfaaaDoorV1
import Derived.Test.YtcanlgcifnjfaaaDoorRows
set_option maxRecDepth 20000
namespace Go.Hd
open Go Go.RowKit

theorem idx_mem : ∀ (l : List UInt8) (c : UInt8), decide (0 ≤ Lib.indexByte l c) = l.contains c
  | [], c => rfl
  | b :: l, c => by
    have ih := idx_mem l c
    have hg := Lib.indexByte_ge l c
    unfold Lib.indexByte
    by_cases h : b = c
    · subst h; simp
    · rw [if_neg (by simpa using h)]
      have h2 : ((b :: l).contains c) = l.contains c := by simp [Ne.symm h]
      rw [h2, ← ih]
      by_cases hm : Lib.indexByte l c = -1
      · rw [if_pos (by simpa using hm), hm]
      · rw [if_neg (by simpa using hm)]
        rw [decide_eq_true (by omega), decide_eq_true (by omega)]
theorem idx_at : ∀ (p s : List UInt8) (c : UInt8), c ∉ p → Lib.indexByte (p ++ c :: s) c = p.length
  | [], s, c, _ => by simp [Lib.indexByte]
  | b :: p, s, c, h => by
    have hb : b ≠ c := fun e => h (by simp [e])
    have ih := idx_at p s c (fun e => h (List.mem_cons_of_mem _ e))
    rw [List.cons_append]
    unfold Lib.indexByte
    rw [if_neg (by simpa using hb), ih, if_neg (by simp)]
    simp
theorem splitK_cut : ∀ (n : Nat) (l : List UInt8), l.length ≤ n → Lib.splitK [47] 0 (l.count 47) l = cutP l := by
  intro n
  induction n with
  | zero =>
    intro l h
    obtain rfl : l = [] := List.eq_nil_of_length_eq_zero (by omega)
    rfl
  | succ n ih =>
    intro l h
    by_cases hm : (47 : UInt8) ∈ l
    · obtain ⟨p, s, rfl, hp⟩ := List.eq_append_cons_of_mem hm
      have h1 : Lib.index (p ++ 47 :: s) [47] = (p.length : Int) := by rw [Lib.index_one]; exact idx_at p s 47 hp
      have h2 : (p ++ 47 :: s).count 47 = s.count 47 + 1 := by
        rw [List.count_append, List.count_eq_zero.2 hp, List.count_cons_self, Nat.zero_add]
      have h3 : s.length ≤ n := by simp at h; omega
      rw [h2, cutP_app p s hp]
      unfold Lib.splitK
      rw [h1, if_neg (by simp), Int.toNat_natCast, Nat.add_zero, List.take_left' rfl, List.length_singleton, ← ih s h3]
      congr 2
      rw [show p.length + 1 = (p ++ [47]).length by simp, show p ++ 47 :: s = (p ++ [47]) ++ s by simp, List.drop_left' rfl]
    · rw [List.count_eq_zero.2 hm, cutP_one l hm]; rfl
theorem str_map {L : List ByteArray} {M : List (List UInt8)} (h : L.map (·.data.toList) = M) : L = M.map str := by
  subst h
  rw [List.map_map]
  induction L with
  | nil => rfl
  | cons x L ih =>
    rw [List.map_cons, ← ih]
    congr 1
theorem splitB_cut (l : List UInt8) : Lib.splitB ⟨#[47]⟩ 0 (Lib.countB (str l) ⟨#[47]⟩) (str l) = (cutP l).map str := by
  refine str_map ?_
  rw [Lib.splitB_data]
  have h1 : Lib.countB (str l) ⟨#[47]⟩ = l.count 47 := by
    show Lib.count (str l).data.toList [47] = _
    rw [Lib.count_one, str_data]
  rw [h1, str_data]
  exact splitK_cut _ l (Nat.le_refl _)
theorem cutP_len (l : List UInt8) : (cutP l).length ≤ l.length + 1 := by
  induction l with
  | nil => simp [cutP]
  | cons c l ih =>
    by_cases hc : c = 47
    · subst hc; rw [cutP_sep]; simp; omega
    · obtain ⟨q, qs, h1, h2⟩ := cutP_cons hc l
      rw [h1] at ih
      rw [h2]; simp at ih ⊢; omega
theorem cutP_piece (l : List UInt8) : ∀ p ∈ cutP l, p.length ≤ l.length := by
  induction l with
  | nil => intro p h; simp [cutP] at h; subst h; simp
  | cons c l ih =>
    intro p h
    by_cases hc : c = 47
    · subst hc
      rw [cutP_sep] at h
      rcases List.mem_cons.1 h with rfl | h
      · simp
      · have := ih p h; simp; omega
    · obtain ⟨q, qs, h1, h2⟩ := cutP_cons hc l
      rw [h1] at ih
      rw [h2] at h
      rcases List.mem_cons.1 h with rfl | h
      · have := ih q (by simp); simp; omega
      · have := ih p (List.mem_cons_of_mem _ h); simp; omega
end Go.Hd
namespace Go.Proofs.YtcanlgcifnjfaaaDoor
open Go.RowKit Go.Hd

theorem contains_any (l : List UInt8) (c : UInt8) (w : World) :
    Calls Tryd.prog 43 #[.string (str l), .string ⟨#[c]⟩] w fun e w' => e = .returned (.bool (l.contains c)) ∧ w = w' :=
  (Tryd.strings_Contains_one (str l) c w).mono fun e w' ⟨h1, h2⟩ => ⟨by rw [h1, str_data, idx_mem], h2.symm⟩
theorem prefix_any (l p : List UInt8) (w : World) :
    Calls Tryd.prog 34 #[.string (str l), .string (str p)] w fun e w' => e = .returned (.bool (beginsB l p)) ∧ w = w' :=
  (Tryd.strings_HasPrefix (str l) (str p) w).mono fun e w' ⟨h1, h2⟩ => ⟨by rw [h1, str_data, str_data]; rfl, h2.symm⟩
theorem infoStr : (Tryd.prog.info? 9).map (fun i => (i.zero, i.size, i.bytes)) = some (some (.string ByteArray.empty), 1, 16) := by kernel_rfl
theorem split_any (l : List UInt8) (w : World) (hl : l.length ≤ 1000000) :
    Calls Tryd.prog 30 #[.string (str l), .string ⟨#[47]⟩] w fun e w' => e = .returned (.slice (some ⟨w.heap.size, 0, none⟩) (cutP l).length (cutP l).length) ∧ w' = w.alloc (.cells ((cutP l).map strV).toArray 9) := by
  have hs : (str l).size = l.length := str_size l
  have hle := Lib.countB_le ⟨#[47]⟩ (by decide) (str l).size (str l) (Nat.le_refl _)
  have hlen := Lib.splitB_all ⟨#[47]⟩ (by decide) 0 _ (str l) rfl
  have c := Any.strings_genSplit_core Tryd.lays221 infoStr (str l) ⟨#[47]⟩ 0 (-1) (Lib.countB (str l) ⟨#[47]⟩ + 1) w (by rw [hs]; omega) (by decide) (Nat.zero_le _)
    (fun x c _ => (Tryd.strings_Index_one x 47 _).mono fun e w' ⟨h1, h2⟩ => ⟨by rw [h1]; congr 3; exact (Lib.index_one _ _).symm, h2⟩)
    ((Tryd.strings_Count_one (str l) 47 w).mono fun e w' ⟨h1, h2⟩ => ⟨by rw [h1]; congr 3; exact (Lib.count_one 47 (str l).data.toList).symm, h2⟩) (by decide) (by decide) (by rw [if_pos (by decide)]; omega)
  rw [Nat.add_sub_cancel, hlen] at c
  have e2 : Lib.cellsOf (Lib.splitB ⟨#[47]⟩ 0 (Lib.countB (str l) ⟨#[47]⟩) (str l)) (Lib.countB (str l) ⟨#[47]⟩ + 1) = ((Lib.splitB ⟨#[47]⟩ 0 (Lib.countB (str l) ⟨#[47]⟩) (str l)).map Value.string).toArray := by rw [← hlen]; exact Lib.cellsOf_full _
  rw [e2, ← hlen, splitB_cut, List.length_map, List.map_map] at c
  go_enter Tryd.func30, Tryd.ntmps30
  go_wp2_with fail
  refine c.mono ?_
  rintro e w' ⟨rfl, hw⟩
  go_wp2
  go_ret
  exact ⟨rfl, rfl⟩
end Go.Proofs.YtcanlgcifnjfaaaDoor
