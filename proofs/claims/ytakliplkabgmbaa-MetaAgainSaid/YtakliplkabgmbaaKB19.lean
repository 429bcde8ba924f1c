/- Joined: what one statement of this layer stands on, part 19 of 19; nothing is assumed. -/
import Derived.Deep.DeepCutAuto
import Derived.Deep.Strs
import Derived.Laws.StructEq
import Derived.Test.YtakliplkabgmbaaKB4
import Derived.Test.YtakliplkabgmbaaKB13
import Derived.Test.YtakliplkabgmbaaKB15
import Derived.Test.YtakliplkabgmbaaKB18
set_option maxRecDepth 20000
namespace Go.Proofs.Ytakliplkabgmbaa
open Go.RowKit Go.Hd
theorem okV_zero : OkV pv0 := .mk (by unfold in64; omega) (by simp)
theorem decF_okV (l : List UInt8) : OkV (decF l).1 := by
  unfold decF
  split
  · exact okV_zero
  · split
    · exact okV_zero
    · rename_i v r h
      split
      · obtain ⟨_, _, _, h1, _⟩ := enc_dec 16 _ _ _ h
        exact h1
      · exact okV_zero
theorem OkV.int {v : PV} (h : OkV v) : in64 v.int := by cases h with | mk a b => exact a
theorem OkV.sub {v : PV} (h : OkV v) : ∀ x ∈ v.list, OkV x := by cases h with | mk a b => exact b
theorem okV_fld {v : PV} (h : OkV v) (key : List UInt8) : OkV (fldV v key) := by
  cases h with
  | @mk k n b t ks l hn hl =>
    rw [fldV_mk]
    split
    · cases hF : findK ks l key with
      | none => exact okV_zero
      | some x => exact hl x (findK_mem hF)
    · exact okV_zero
theorem okV_at {x : PV} (h : OkV x) (i : Nat) : OkV (atV x i) := by
  by_cases hi : i < x.list.length
  · have h1 : atV x i = x.list[i] := by unfold atV; simp [hi]
    rw [h1]; exact OkV.sub h _ (List.getElem_mem hi)
  · have h1 : atV x i = pv0 := by unfold atV; simp [hi]
    rw [h1]; exact okV_zero
theorem sm_fld {v : PV} (h : Sm v) (key : List UInt8) : Sm (fldV v key) := by
  cases h with
  | @mk k n b t ks l a1 a2 a3 a4 _ =>
    rw [fldV_mk]
    split
    · cases hF : findK ks l key with
      | none => exact sm_zero
      | some x => exact a4 x (findK_mem hF)
    · exact sm_zero
theorem i0_64 : in64 0 := by unfold in64; omega
theorem small_max {n : Nat} (h : n ≤ 65536) : n ≤ maxLen := by unfold maxLen; omega
theorem lstR_ok (l : List UInt8) : (∀ x ∈ (lstR l).1, AbtOk x) ∧ (lstR l).1.length ≤ 64 := by
  unfold lstR
  split
  · exact ⟨by simp, by simp⟩
  · split
    · rename_i h1 h2
      refine ⟨fun x hx => ?_, ?_⟩
      · obtain ⟨y, hy, rfl⟩ := List.mem_map.1 hx
        have hy := List.mem_of_mem_take hy
        have hs := Sm.sub (sm_fld (decF_sm l) [97]) y hy
        have ho := OkV.sub (okV_fld (decF_okV l) [97]) y hy
        exact ⟨keyV_len _, OkV.int (okV_at ho 2), i0_64, i0_64, small_max (atV_txt hs 0), Nat.zero_le _⟩
      · have h3 := lstOk_short h2
        simp only [lstOut, List.length_map, List.length_take]; omega
    · exact ⟨by simp, by simp⟩
theorem arcR_ok (l : List UInt8) : AbtOk (arcR l).1 ∧ (∀ p ∈ (arcR l).2.1, PrtOk p) ∧ (arcR l).2.1.length ≤ 64 := by
  unfold arcR
  split
  · exact ⟨abt0_ok, by simp, by simp⟩
  · split
    · rename_i h1 h2
      have hO := decF_okV l
      have hS := decF_sm l
      refine ⟨⟨rfl, OkV.int (okV_fld hO _), OkV.int (okV_fld hO _), OkV.int (okV_fld hO _), small_max (Sm.text (sm_fld hS _)), small_max (Sm.text (sm_fld hS _))⟩, fun x hx => ?_, ?_⟩
      · obtain ⟨y, hy, rfl⟩ := List.mem_map.1 hx
        have hy := List.mem_of_mem_take hy
        have ho := OkV.sub (okV_fld hO [105]) y hy
        exact ⟨keyV_len _, OkV.int (okV_at ho 1)⟩
      · have h3 := arcOk_short h2
        simp only [arcL, List.length_map, List.length_take]; omega
    · exact ⟨abt0_ok, by simp, by simp⟩
end Go.Proofs.Ytakliplkabgmbaa
set_option maxRecDepth 20000
namespace Go.Proofs.Ytakliplkabgmbaa
open Go.RowKit Go.Hd
def stripA (x : Abt) : Abt := ⟨x.name, x.id, x.time, [], 0, 0⟩
theorem in64_3 {n : Int} (h : 0 ≤ n ∧ n ≤ 100) : in64 n := by unfold in64; omega
theorem okV_num {n : Int} (h : in64 n) : OkV (pNum n) := .mk h (by simp)
theorem okV_txt (t : List UInt8) : OkV (pTxt t) := .mk (in64_3 (by omega)) (by simp)
theorem okV_byt (b : List UInt8) : OkV (pByt b) := .mk (in64_3 (by omega)) (by simp)
theorem okV_lst {l : List PV} (h : ∀ x ∈ l, OkV x) : OkV (pList l) := .mk (in64_3 (by omega)) h
theorem okV_listV {L : List Abt} (hok : ∀ x ∈ L, AbtOk x) : OkV (listV L) := by
  refine .mk (in64_3 (by omega)) ?_
  intro x hx
  simp only [List.mem_cons, List.not_mem_nil, or_false] at hx
  rcases hx with rfl | rfl
  · refine okV_lst ?_
    intro y hy
    obtain ⟨z, hz, rfl⟩ := List.mem_map.1 hy
    refine okV_lst ?_
    intro u hu
    simp only [List.mem_cons, List.not_mem_nil, or_false] at hu
    rcases hu with rfl | rfl | rfl
    · exact okV_txt _
    · exact okV_byt _
    · exact okV_num (hok z hz).time
  · exact okV_num (in64_3 (by omega))
theorem okV_archV {x : Abt} {P : List Prt} (hx : AbtOk x) (hP : ∀ p ∈ P, PrtOk p) : OkV (archV x P) := by
  refine .mk (in64_3 (by omega)) ?_
  intro y hy
  simp only [List.mem_cons, List.not_mem_nil, or_false] at hy
  rcases hy with rfl | rfl | rfl | rfl | rfl | rfl
  · exact okV_num hx.bytes
  · exact okV_txt _
  · refine okV_lst ?_
    intro y hy
    obtain ⟨p, hp, rfl⟩ := List.mem_map.1 hy
    refine okV_lst ?_
    intro u hu
    simp only [List.mem_cons, List.not_mem_nil, or_false] at hu
    rcases hu with rfl | rfl
    · exact okV_byt _
    · exact okV_num (hP p hp).size
  · exact okV_txt _
  · exact okV_num hx.items
  · exact okV_num hx.time
theorem abtOf_abtV {x : Abt} (h : x.id.length = 32) : abtOf (abtV x) = stripA x := by
  unfold abtOf stripA
  show Abt.mk _ (keyV x.id) _ _ _ _ = _
  rw [keyV_32 h]; rfl
theorem prtOf_prtV {p : Prt} (h : p.id.length = 32) : prtOf (prtV p) = p := by
  unfold prtOf
  show Prt.mk (keyV p.id) _ = _
  rw [keyV_32 h]; rfl
theorem scanE_strip : ∀ L : List Abt, scanE (L.map stripA) = scanE L
  | [] => rfl
  | x :: L => by rw [List.map_cons, scanE, scanE, scanE_strip L]; rfl
theorem checkL_strip (L : List Abt) : checkL (L.map stripA) = checkL L := by
  unfold checkL
  rw [scanE_strip, List.length_map, List.map_map]; rfl
theorem listV_strip (L : List Abt) : listV (L.map stripA) = listV L := by
  unfold listV
  rw [List.map_map]; rfl
theorem checkL_len {L : List Abt} (h : checkL L = 0) : L.length ≤ 64 := by
  rcases Nat.lt_or_ge 64 L.length with h1 | h1
  · rw [checkL_long h1] at h; exact absurd h (by omega)
  · exact h1
theorem checkA_len {x : Abt} {P : List Prt} (h : checkA x P = 0) : P.length ≤ 64 := by
  rcases Nat.lt_or_ge 64 P.length with h1 | h1
  · exact absurd h (checkA_long h1)
  · exact h1
theorem lstOut_listV {L : List Abt} (hok : ∀ x ∈ L, AbtOk x) (h : L.length ≤ 64) : lstOut (listV L) = L.map stripA := by
  unfold lstOut
  rw [fld_listV]
  show ((L.map abtV).take 70).map abtOf = _
  rw [List.take_of_length_le (by simp; omega), List.map_map]
  exact List.map_congr_left (fun x hx => abtOf_abtV (hok x hx).id)
theorem arcL_archV {x : Abt} {P : List Prt} (hP : ∀ p ∈ P, PrtOk p) (h : P.length ≤ 64) : arcL (archV x P) = P := by
  unfold arcL
  rw [fld_archV]
  show ((P.map prtV).take 70).map prtOf = _
  rw [List.take_of_length_le (by simp; omega), List.map_map]
  have : P.map (prtOf ∘ prtV) = P.map id := List.map_congr_left (fun p hp => prtOf_prtV (hP p hp).id)
  rw [this, List.map_id]
def zidX (x : Abt) : Abt := { x with id := zidL }
theorem arcX_archV (x : Abt) (P : List Prt) : arcX (archV x P) = zidX x := rfl
theorem archV_zid (x : Abt) (P : List Prt) : archV (zidX x) P = archV x P := rfl
theorem checkA_zid (x : Abt) (P : List Prt) : checkA (zidX x) P = checkA x P := rfl
theorem not_arch (L : List Abt) : arcOk (listV L) = false := by
  by_cases h : arcOk (listV L) = true
  · unfold arcOk at h
    rw [Bool.and_eq_true] at h
    have := same_arch (norm_listV L) h.2
    unfold listV archV at this
    simp at this
  · simpa using h
theorem not_list (x : Abt) (P : List Prt) : lstOk (archV x P) = false := by
  by_cases h : lstOk (archV x P) = true
  · unfold lstOk at h
    rw [Bool.and_eq_true] at h
    have := same_list (norm_archV x P) h.2
    unfold listV archV at this
    simp at this
  · simpa using h
theorem list_back {L : List Abt} {b : List UInt8} (hok : ∀ x ∈ L, AbtOk x) (h : metaL L = (b, 0)) : lstR b = (L.map stripA, 0) ∧ arcR b = (abt0, [], 4) ∧ b.length ≤ 65536 := by
  have hc : checkL L = 0 := by
    by_cases h0 : checkL L = 0
    · exact h0
    · unfold metaL at h
      rw [if_pos h0] at h
      exact absurd (congrArg Prod.snd h) h0
  unfold metaL at h
  rw [if_neg (by rw [hc]; simp)] at h
  obtain ⟨_, _, hl, _, hd⟩ := decF_enc (okV_listV hok) h
  rw [norm_listV] at hd
  have h64 := checkL_len hc
  refine ⟨?_, ?_, hl⟩
  · unfold lstR
    rw [hd]
    have ho : lstOk (listV L) = true := by
      unfold lstOk
      rw [lstOut_listV hok h64, checkL_strip, listV_strip, sameV_refl, hc]; rfl
    simp only [ne_eq, not_true_eq_false, if_false, ho, if_true]
    rw [lstOut_listV hok h64]
  · unfold arcR
    rw [hd]
    simp [not_arch]
theorem arch_back {x : Abt} {P : List Prt} {b : List UInt8} (hx : AbtOk x) (hP : ∀ p ∈ P, PrtOk p) (h : metaA x P = (b, 0)) : arcR b = (zidX x, P, 0) ∧ lstR b = ([], 4) ∧ b.length ≤ 65536 := by
  have hc : checkA x P = 0 := by
    by_cases h0 : checkA x P = 0
    · exact h0
    · unfold metaA at h
      rw [if_pos h0] at h
      exact absurd (congrArg Prod.snd h) h0
  unfold metaA at h
  rw [if_neg (by rw [hc]; simp)] at h
  obtain ⟨_, _, hl, _, hd⟩ := decF_enc (okV_archV hx hP) h
  rw [norm_archV] at hd
  have h64 := checkA_len hc
  refine ⟨?_, ?_, hl⟩
  · unfold arcR
    rw [hd]
    have ho : arcOk (archV x P) = true := by
      unfold arcOk
      rw [arcL_archV hP h64, arcX_archV, checkA_zid, archV_zid, sameV_refl, hc]; rfl
    simp only [ne_eq, not_true_eq_false, if_false, ho, if_true]
    rw [arcL_archV hP h64, arcX_archV]
  · unfold lstR
    rw [hd]
    simp [not_list]
theorem list_again {l : List UInt8} (h : (lstR l).2 = 0) : metaL (lstR l).1 = (l, 0) ∧ (decF l).1 = listV (lstR l).1 ∧ (decF l).2 = 0 := by
  unfold lstR at h ⊢
  by_cases hd : (decF l).2 = 0
  · simp only [ne_eq, hd, not_true_eq_false, if_false] at h ⊢
    by_cases ho : lstOk (decF l).1 = true
    · rw [if_pos ho]
      have hn := decF_norm (decF_okV l) hd
      unfold lstOk at ho
      rw [Bool.and_eq_true, decide_eq_true_eq] at ho
      have hv := same_list hn ho.2
      have he := encF_dec (l := l) (v := (decF l).1) (by rw [← hd])
      refine ⟨?_, hv, trivial⟩
      unfold metaL
      rw [if_neg (by rw [ho.1]; simp), ← hv, he]
    · rw [if_neg ho] at h
      exact absurd h (by decide)
  · rw [if_pos hd] at h
    exact absurd h hd
theorem arch_again {l : List UInt8} (h : (arcR l).2.2 = 0) : metaA (arcR l).1 (arcR l).2.1 = (l, 0) ∧ (decF l).1 = archV (arcR l).1 (arcR l).2.1 ∧ (decF l).2 = 0 := by
  unfold arcR at h ⊢
  by_cases hd : (decF l).2 = 0
  · simp only [ne_eq, hd, not_true_eq_false, if_false] at h ⊢
    by_cases ho : arcOk (decF l).1 = true
    · rw [if_pos ho]
      have hn := decF_norm (decF_okV l) hd
      unfold arcOk at ho
      rw [Bool.and_eq_true, decide_eq_true_eq] at ho
      have hv := same_arch hn ho.2
      have he := encF_dec (l := l) (v := (decF l).1) (by rw [← hd])
      refine ⟨?_, hv, trivial⟩
      unfold metaA
      rw [if_neg (by rw [ho.1]; simp), ← hv, he]
    · rw [if_neg ho] at h
      exact absurd h (by decide)
  · rw [if_pos hd] at h
    exact absurd h hd
theorem not_both {l : List UInt8} (h1 : (lstR l).2 = 0) (h2 : (arcR l).2.2 = 0) : False := by
  have e1 := (list_again h1).2.1
  have e2 := (arch_again h2).2.1
  rw [e1] at e2
  unfold listV archV at e2
  simp at e2
end Go.Proofs.Ytakliplkabgmbaa
set_option maxRecDepth 20000
namespace Go.Proofs.Ytakliplkabgmbaa
open Go.ChangeShapes Go.WideShapes Go.ChangeAt Go.RowKit Go.Hd
section
variable {H : Type} {enc : TypeId × Value → H} {W : World}
/-- The cells of an array of bytes. -/
theorem bytes_of_id {cs : List Value} {fuel : Nat} {y : DataW H × List MemPlace} (hl : cs.length = 32) (h : DataW.trod enc Try.prog W 0 (fun _ => true) true fuel 29 cs = some y) : ∃ key : List UInt8, key.length = 32 ∧ cs = key.map b8 := by
  obtain ⟨xs, m, _, _, _, hxl, hx⟩ := DataW.trod_array Try.underlying29 h
  rw [show Try.prog.cellsOf 5 = 1 by kernel_rfl] at hx
  have each : ∀ i, i < 32 → ∃ c : UInt8, cs[i]? = some (b8 c) := by
    intro i hi
    have h1 := hx i hi
    rw [Nat.mul_one, List.getElem?_eq_getElem (by omega)] at h1
    obtain ⟨z, hz, _, hw⟩ := DataW.trod_int Try.underlying5 h1
    have hb := u8_wf hw
    have h2 : cs[i]? = some (.int .u8 z) := by
      have h3 : (cs.drop i).take 1 = [cs[i]'(by omega)] := by rw [List.drop_eq_getElem_cons (by omega)]; rfl
      rw [h3] at hz
      rw [List.getElem?_eq_getElem (by omega)]
      simpa using hz
    exact ⟨UInt8.ofNat z.toNat, by rw [h2]; congr 2; simp; omega⟩
  have build : ∀ m, m ≤ 32 → ∃ key : List UInt8, key.length = m ∧ cs.take m = key.map b8 := by
    intro m
    induction m with
    | zero => intro _; exact ⟨[], rfl, by simp⟩
    | succ m ih =>
      intro hm
      obtain ⟨key, h1, h2⟩ := ih (by omega)
      obtain ⟨c, hc⟩ := each m (by omega)
      refine ⟨key ++ [c], by simp [h1], ?_⟩
      rw [List.take_add_one, h2, hc]
      simp
  obtain ⟨key, h1, h2⟩ := build 32 (by omega)
  rw [List.take_of_length_le (by omega)] at h2
  exact ⟨key, h1, h2⟩
theorem int_of {t : TypeId} (ht : Try.prog.underlying t = some (.int .i64)) {cs : List Value} {fuel : Nat} {y : DataW H × List MemPlace} (h : DataW.trod enc Try.prog W 0 (fun _ => true) true fuel t cs = some y) : ∃ z : Int, cs = [.int .i64 z] ∧ in64 z := by
  obtain ⟨z, hz, _, hw⟩ := DataW.trod_int ht h
  exact ⟨z, hz, i64_wf hw⟩
theorem str_of_cells {cs : List Value} {fuel : Nat} {y : DataW H × List MemPlace} (h : DataW.trod enc Try.prog W 0 (fun _ => true) true fuel 9 cs = some y) : ∃ l : List UInt8, cs = [strV l] ∧ l.length ≤ maxLen := by
  obtain ⟨s, e, _, hs⟩ := DataW.trod_string Try.underlying9 h
  exact ⟨s.data.toList, by unfold strV; rw [str_of]; exact e, by have : s.data.toList.length = s.size := Array.length_toList; omega⟩
theorem abt_of {cs : List Value} {fuel : Nat} {y : DataW H × List MemPlace} (hl : cs.length = 37) (h : DataW.trod enc Try.prog W 0 (fun _ => true) true fuel 31 cs = some y) : ∃ x : Abt, cs = abtC x ∧ AbtOk x := by
  obtain ⟨xs, n, _, _, _, hlen, hfl⟩ := DataW.trod_struct Try.underlying31 h
  have x6 : xs.length = 6 := by rw [hlen]; rfl
  match xs, x6 with
  | [y0, y1, y2, y3, y4, y5], _ =>
    have f0 : DataW.trod enc Try.prog W 0 (fun _ => true) true n 9 ((cs.drop 0).take (Try.prog.cellsOf 9)) = some y0 := hfl 0 _ rfl
    have f1 : DataW.trod enc Try.prog W 0 (fun _ => true) true n 29 ((cs.drop 1).take (Try.prog.cellsOf 29)) = some y1 := hfl 1 _ rfl
    have f2 : DataW.trod enc Try.prog W 0 (fun _ => true) true n 2 ((cs.drop 33).take (Try.prog.cellsOf 2)) = some y2 := hfl 2 _ rfl
    have f3 : DataW.trod enc Try.prog W 0 (fun _ => true) true n 9 ((cs.drop 34).take (Try.prog.cellsOf 9)) = some y3 := hfl 3 _ rfl
    have f4 : DataW.trod enc Try.prog W 0 (fun _ => true) true n 3 ((cs.drop 35).take (Try.prog.cellsOf 3)) = some y4 := hfl 4 _ rfl
    have f5 : DataW.trod enc Try.prog W 0 (fun _ => true) true n 3 ((cs.drop 36).take (Try.prog.cellsOf 3)) = some y5 := hfl 5 _ rfl
    have s1 : Try.prog.cellsOf 29 = 32 := by kernel_rfl
    rw [cells_one 9 (by kernel_rfl)] at f0 f3
    rw [s1] at f1
    rw [cells_one 2 (by kernel_rfl)] at f2
    rw [cells_one 3 (by kernel_rfl)] at f4 f5
    obtain ⟨nm, e0, h0⟩ := str_of_cells f0
    obtain ⟨id, hi, e1⟩ := bytes_of_id (by simp; omega) f1
    obtain ⟨tm, e2, h2⟩ := int_of Try.underlying2 f2
    obtain ⟨cm, e3, h3⟩ := str_of_cells f3
    obtain ⟨it, e4, h4⟩ := int_of Try.underlying3 f4
    obtain ⟨by_, e5, h5⟩ := int_of Try.underlying3 f5
    refine ⟨⟨nm, id, tm, cm, it, by_⟩, ?_, ⟨hi, h2, h4, h5, h0, h3⟩⟩
    have k : cs = (cs.drop 0).take 1 ++ ((cs.drop 1).take 32 ++ ((cs.drop 33).take 1 ++ ((cs.drop 34).take 1 ++ ((cs.drop 35).take 1 ++ (cs.drop 36).take 1)))) := by
      apply List.ext_getElem?
      intro i
      simp only [List.getElem?_append, List.length_take, List.length_drop, hl, List.getElem?_take, List.getElem?_drop]
      by_cases a0 : i < 1
      · simp [a0]
      by_cases a1 : i < 33
      · simp [a0, show i - 1 < 32 by omega, show 1 + (i - 1) = i by omega]
      by_cases a2 : i < 34
      · obtain rfl : i = 33 := by omega
        simp
      by_cases a3 : i < 35
      · obtain rfl : i = 34 := by omega
        simp
      by_cases a4 : i < 36
      · obtain rfl : i = 35 := by omega
        simp
      by_cases a5 : i < 37
      · obtain rfl : i = 36 := by omega
        simp
      · rw [List.getElem?_eq_none (by omega)]
        simp [a0, show ¬ i - 1 < 32 by omega, show ¬ i - 1 - 32 < 1 by omega, show ¬ i - 1 - 32 - 1 < 1 by omega, show ¬ i - 1 - 32 - 1 - 1 < 1 by omega, show ¬ i - 1 - 32 - 1 - 1 - 1 < 1 by omega]
    rw [k, e0, e1, e2, e3, e4, e5]
    rfl
theorem prt_of {cs : List Value} {fuel : Nat} {y : DataW H × List MemPlace} (hl : cs.length = 33) (h : DataW.trod enc Try.prog W 0 (fun _ => true) true fuel 83 cs = some y) : ∃ x : Prt, cs = prtC x ∧ PrtOk x := by
  obtain ⟨xs, n, _, _, _, hlen, hfl⟩ := DataW.trod_struct Try.underlying83 h
  have x6 : xs.length = 2 := by rw [hlen]; rfl
  match xs, x6 with
  | [y0, y1], _ =>
    have f0 : DataW.trod enc Try.prog W 0 (fun _ => true) true n 29 ((cs.drop 0).take (Try.prog.cellsOf 29)) = some y0 := hfl 0 _ rfl
    have f1 : DataW.trod enc Try.prog W 0 (fun _ => true) true n 3 ((cs.drop 32).take (Try.prog.cellsOf 3)) = some y1 := hfl 1 _ rfl
    have s1 : Try.prog.cellsOf 29 = 32 := by kernel_rfl
    rw [s1] at f0
    rw [cells_one 3 (by kernel_rfl)] at f1
    obtain ⟨id, hi, e0⟩ := bytes_of_id (by simp; omega) f0
    obtain ⟨sz, e1, h1⟩ := int_of Try.underlying3 f1
    refine ⟨⟨id, sz⟩, ?_, ⟨hi, h1⟩⟩
    have k : cs = (cs.drop 0).take 32 ++ (cs.drop 32).take 1 := by
      rw [List.drop_zero, List.take_of_length_le (l := cs.drop 32) (by simp; omega), List.take_append_drop]
    rw [k, e0, e1]
    rfl
theorem all_of {X : Type} {C : X → List Value} {K : X → Prop} {s : Nat} {t : TypeId} (hk : ∀ {x : List Value} {fuel : Nat} {y : DataW H × List MemPlace}, x.length = s → DataW.trod enc Try.prog W 0 (fun _ => true) true fuel t x = some y → ∃ r : X, x = C r ∧ K r)
    {xs : List (List Value)} (h : ∀ x ∈ xs, x.length = s ∧ ∃ fuel y, DataW.trod enc Try.prog W 0 (fun _ => true) true fuel t x = some y) :
    ∃ l : List X, l.length = xs.length ∧ xs = l.map C ∧ ∀ r ∈ l, K r := by
  induction xs with
  | nil => exact ⟨[], rfl, rfl, by simp⟩
  | cons x xs ih =>
    obtain ⟨l, h1, h2, h3⟩ := ih (fun y hy => h y (by simp [hy]))
    obtain ⟨hx, fuel, y, hy⟩ := h x (by simp)
    obtain ⟨r, e1, e2⟩ := hk hx hy
    exact ⟨r :: l, by simp [h1], by rw [e1, h2]; rfl, fun q hq => (List.mem_cons.1 hq).elim (fun h => h ▸ e2) (h3 q)⟩
theorem open_all {X : Type} {C : X → List Value} {K : X → Prop} {s : Nat} {base : Nat} {tl t : TypeId} (ht : Try.prog.underlying tl = some (.slice t)) (hc : Try.prog.cellsOf t = s) (hk : ∀ {x : List Value} {fuel : Nat} {y : DataW H × List MemPlace}, x.length = s → DataW.trod enc Try.prog W 0 (fun _ => true) true fuel t x = some y → ∃ r : X, x = C r ∧ K r)
    {v : Value} {d : DataW H} {p : List MemPlace} (o : Value.okWide Try.prog W .any base tl v) (h : DataW.Trod enc Try.prog W 0 (fun _ => true) true tl v d p) :
    ∃ (a : Option Addr) (n c : Nat) (l : List X), v = .slice a n c ∧ n = l.length ∧ n ≤ c ∧ c ≤ maxLen ∧ Row W a (l.map C).flatten ∧ ∀ r ∈ l, K r := by
  obtain ⟨a, n, c, xs, rfl, hn, hnc, hcm, hr, hx⟩ := open_rows ht hc o h
  obtain ⟨l, h1, h2, h3⟩ := all_of hk hx
  exact ⟨a, n, c, l, rfl, by omega, hnc, hcm, by rw [← h2]; exact hr, h3⟩
theorem open_abt {base : Nat} {v : Value} {d : DataW H} {p : List MemPlace} (o : Value.okWide Try.prog W .any base 31 v) (h : DataW.Trod enc Try.prog W 0 (fun _ => true) true 31 v d p) : ∃ x : Abt, v = .agg (List.toArray (abtC x)) ∧ AbtOk x := by
  obtain ⟨cs, rfl, _⟩ := okWide_struct Try.underlying31 o
  obtain ⟨fuel, hf⟩ := h
  have hl : cs.toList.length = 37 := by
    obtain ⟨xs, n, _, _, hl, _, _⟩ := DataW.trod_struct Try.underlying31 hf
    rw [show Try.prog.cellsOf 31 = 37 by kernel_rfl] at hl
    exact hl
  obtain ⟨x, hx, hk⟩ := abt_of hl hf
  exact ⟨x, by rw [← hx], hk⟩
end
end Go.Proofs.Ytakliplkabgmbaa
set_option maxRecDepth 20000
namespace Go.Proofs.Ytakliplkabgmbaa
open Go.ChangeShapes Go.WideShapes Go.ChangeAt Go.RowKit Go.Hd
attribute [local go_sem ↓] h_ldAB h_stAB h_alAB h_bsAB
attribute [local go_sem] r_ldAB r_stAB r_alAB r_bsAB
theorem cutL_one (x : Abt) : cutL [x] 1 = [cutX x] := rfl
theorem prt_take {w : World} {a : Option Addr} {ps : List Prt} (n : Nat) (hk : ∀ p ∈ ps, PrtOk p) (h : Row w a (ps.map prtC).flatten) : Row w a ((ps.take n).map prtC).flatten := by
  have e : ((ps.take n).map prtC).flatten = ((ps.map prtC).flatten).take (n * 33) := by
    rw [List.map_take]
    have : ∀ {xs : List (List Value)} (n : Nat), (∀ x ∈ xs, x.length = 33) → (xs.take n).flatten = xs.flatten.take (n * 33) := by
      intro xs
      induction xs with
      | nil => intro n _; simp
      | cons x xs ih =>
        intro n hs
        cases n with
        | zero => simp
        | succ n =>
          rw [List.take_succ_cons, List.flatten_cons, List.flatten_cons, ih n (fun y hy => hs y (by simp [hy])), Nat.add_mul, Nat.one_mul, Nat.add_comm (n * 33) 33]
          have := hs x (by simp)
          rw [← this, List.take_length_add_append]
    exact this n (prts33 hk)
  rw [e]
  exact h.take _
section
variable {H : Type} {enc : TypeId × Value → H} {W : World} {base : Nat} {v0 v1 v2 : Value} {d0 d1 d2 : DataW H} {p0 p1 p2 : List MemPlace}
end
end Go.Proofs.Ytakliplkabgmbaa
set_option maxRecDepth 20000
namespace Go.Proofs.Ytakliplkabgmbaa
open Go.RowKit Go.Hd
theorem mapMS {α β : Type} {f : α → Option β} : ∀ (l : List α), (∀ x ∈ l, ∃ y, f x = some y) → ∃ r, l.mapM f = some r
  | [], _ => ⟨[], by simp⟩
  | x :: l, h => by
    obtain ⟨y, hy⟩ := h x (by simp)
    obtain ⟨r, hr⟩ := mapMS l (fun z hz => h z (by simp [hz]))
    exact ⟨y :: r, by simp [hy, hr]⟩
theorem klS_int {t : TypeId} {q : IntKind} {n : Int} (hu : Try.prog.underlying t = some (.int q)) (hw : (Lit.int q n).wf = true) (d : Nat) : ∃ ls, Try.prog.keyLits (d + 1) t [.int q n] = some ls := by
  refine ⟨[.int q n], ?_⟩
  simp [Program.keyLits, hu, hw]
theorem klS_str {t : TypeId} {l : List UInt8} (hu : Try.prog.underlying t = some .string) (hl : l.length ≤ maxLen) (d : Nat) : ∃ ls, Try.prog.keyLits (d + 1) t [.string (str l)] = some ls := by
  refine ⟨[.string (str l).data.toList], ?_⟩
  simp [Program.keyLits, hu, hl]
theorem klS_struct {t : TypeId} {fs : Array Field} {cs : List Value} {d : Nat} (hu : Try.prog.underlying t = some (.struct fs)) (hc : cs.length = Try.prog.cellsOf t) (hn : fs.all (·.name != "_") = true)
    (h : ∀ f ∈ fs.toList, ∃ ls, Try.prog.keyLits d f.type ((cs.drop f.offset).take (Try.prog.cellsOf f.type)) = some ls) : ∃ ls, Try.prog.keyLits (d + 1) t cs = some ls := by
  obtain ⟨r, hr⟩ := mapMS _ h
  refine ⟨r.flatten, ?_⟩
  simp only [Program.keyLits, hu]
  rw [if_pos ⟨hc, hn⟩, hr]
  rfl
theorem klS_array {t e : TypeId} {n : Nat} {cs : List Value} {d : Nat} (hu : Try.prog.underlying t = some (.array n e)) (hc : cs.length = Try.prog.cellsOf t)
    (h : ∀ i, i < n → ∃ ls, Try.prog.keyLits d e ((cs.drop (i * Try.prog.cellsOf e)).take (Try.prog.cellsOf e)) = some ls) : ∃ ls, Try.prog.keyLits (d + 1) t cs = some ls := by
  obtain ⟨r, hr⟩ := mapMS (List.range n) (fun i hi => h i (List.mem_range.1 hi))
  refine ⟨r.flatten, ?_⟩
  simp only [Program.keyLits, hu]
  rw [if_pos hc, hr]
  rfl
theorem u8wfS (x : UInt8) : (Lit.int .u8 (x.toNat : Int)).wf = true := by
  have := x.toNat_lt
  simp only [Lit.wf, Bool.and_eq_true, decide_eq_true_eq, IntKind.min, IntKind.max]
  constructor <;> simp [IntKind.signed, IntKind.bits] <;> omega
theorem i64wfS {n : Int} (h : in64 n) : (Lit.int .i64 n).wf = true := by
  unfold in64 at h
  simp only [Lit.wf, Bool.and_eq_true, decide_eq_true_eq, IntKind.min, IntKind.max]
  constructor <;> simp [IntKind.signed, IntKind.bits] <;> omega
theorem klS_id {l : List UInt8} (h : l.length = 32) : ∃ ls, Try.prog.keyLits 3 29 (l.map b8) = some ls := by
  have hb : Try.prog.cellsOf 5 = 1 := by kernel_rfl
  have hi : Try.prog.cellsOf 29 = 32 := by kernel_rfl
  refine klS_array Try.underlying29 (by rw [hi, List.length_map, h]) (fun i hi => ?_)
  rw [hb, Nat.mul_one]
  have e : ((l.map b8).drop i).take 1 = [.int .u8 (l[i]'(by omega)).toNat] := by
    rw [List.drop_eq_getElem_cons (by simp; omega)]
    simp [b8]
  rw [e]
  exact klS_int Try.underlying5 (u8wfS _) _
theorem klS_AB {x : Abt} (h : AbtOk x) : ∃ ls, Try.prog.keyLits 4 31 (abtC x) = some ls := by
  have c0 : Try.prog.cellsOf 9 = 1 := by kernel_rfl
  have c1 : Try.prog.cellsOf 29 = 32 := by kernel_rfl
  have c2 : Try.prog.cellsOf 2 = 1 := by kernel_rfl
  have c3 : Try.prog.cellsOf 3 = 1 := by kernel_rfl
  refine klS_struct Try.underlying31 (by rw [show Try.prog.cellsOf 31 = 37 by kernel_rfl, abtC_len h]) (by kernel_rfl) (fun f hf => ?_)
  have hi : (x.id.map b8).length = 32 := by rw [List.length_map, h.id]
  have d33 : (abtC x).drop 33 = [.int .i64 x.time, strV x.comment, .int .i64 x.items, .int .i64 x.bytes] := by
    show List.drop 32 (x.id.map b8 ++ _) = _
    exact List.drop_left' hi
  simp only [List.mem_cons, List.not_mem_nil, or_false] at hf
  rcases hf with rfl | rfl | rfl | rfl | rfl | rfl
  · rw [c0]; exact klS_str Try.underlying9 h.name _
  · rw [c1]
    have e2 : ((abtC x).drop 1).take 32 = x.id.map b8 := List.take_left' hi
    show ∃ ls, Try.prog.keyLits 3 29 (((abtC x).drop 1).take 32) = some ls
    rw [e2]
    exact klS_id h.id
  · rw [c2]
    show ∃ ls, Try.prog.keyLits 3 2 (((abtC x).drop 33).take 1) = some ls
    rw [d33]
    exact klS_int Try.underlying2 (i64wfS h.time) _
  · rw [c0]
    show ∃ ls, Try.prog.keyLits 3 9 (((abtC x).drop (33 + 1)).take 1) = some ls
    rw [← List.drop_drop, d33]
    exact klS_str Try.underlying9 h.comment _
  · rw [c3]
    show ∃ ls, Try.prog.keyLits 3 3 (((abtC x).drop (33 + 2)).take 1) = some ls
    rw [← List.drop_drop, d33]
    exact klS_int Try.underlying3 (i64wfS h.items) _
  · rw [c3]
    show ∃ ls, Try.prog.keyLits 3 3 (((abtC x).drop (33 + 3)).take 1) = some ls
    rw [← List.drop_drop, d33]
    exact klS_int Try.underlying3 (i64wfS h.bytes) _
theorem klS_PA {p : Prt} (h : PrtOk p) : ∃ ls, Try.prog.keyLits 4 83 (prtC p) = some ls := by
  have c1 : Try.prog.cellsOf 29 = 32 := by kernel_rfl
  have c3 : Try.prog.cellsOf 3 = 1 := by kernel_rfl
  refine klS_struct Try.underlying83 (by rw [show Try.prog.cellsOf 83 = 33 by kernel_rfl, prtC_len h]) (by kernel_rfl) (fun f hf => ?_)
  have hi : (p.id.map b8).length = 32 := by rw [List.length_map, h.id]
  simp only [List.mem_cons, List.not_mem_nil, or_false] at hf
  rcases hf with rfl | rfl
  · rw [c1]
    show ∃ ls, Try.prog.keyLits 3 29 (((prtC p).drop 0).take 32) = some ls
    rw [List.drop_zero, show (prtC p).take 32 = p.id.map b8 from List.take_left' hi]
    exact klS_id h.id
  · rw [c3]
    show ∃ ls, Try.prog.keyLits 3 3 (((prtC p).drop 32).take 1) = some ls
    rw [show (prtC p).drop 32 = [.int .i64 p.size] from List.drop_left' hi]
    exact klS_int Try.underlying3 (i64wfS h.size) _
/-- Two aggregates under '=='. -/
def eqOp (t : TypeId) (x y : Operand) (u v : Value) : Sem Value := do eqGuard .eql t x y u v; binOp .eql t u v
theorem eqOp_agg {P : Program} {t : TypeId} {m : Nat} {x y : Operand} {xs ys : Array Value} {D D' : Nat} {lx ly : List Lit} {w : World} (hm : m ≤ 10000) (hk : P.keyTypeAt m t = true) (hg : P.eqGuardType P.depth t = false)
    (fx : (Value.agg xs).formed P t = true) (fy : (Value.agg ys).formed P t = true) (hx : P.keyLits D t xs.toList = some lx) (hy : P.keyLits D' t ys.toList = some ly) :
    ∃ r : Bool, (eqOp t x y (.agg xs) (.agg ys)).run P w = .ok (.bool r) w ∧ (r = true ↔ lx = ly) := by
  obtain ⟨r, hr, hiff⟩ := run_equalIn_deep (10000 - m) m t hk w D D' (.agg xs) (.agg ys) lx ly fx fy hx hy
  rw [show 10000 - m + m = 10000 by omega] at hr
  refine ⟨r, ?_, hiff⟩
  unfold eqOp
  rw [Sem.run_bind, run_eqGuard_agg w .eql t x y xs ys hg]
  simp only [Result.andThen_ok, run_eql_struct, hr]
section
variable (ρ : Operand → Value) (dst : Option Tmp) (ty : TypeId) (pos : String) (after : Array Edge) (guard : Option (Nat × Bool))
theorem h_eqAB (x y : Operand) (t : TypeId) : execOp ρ { dst, op := .binOp .eql 31 x y t, type := ty, pos, after, guard } = (do pure (.value (← eqOp 31 x y (ρ x) (ρ y)))) := rfl
theorem h_nqID (x y : Operand) (t : TypeId) : execOp ρ { dst, op := .binOp .neq 29 x y t, type := ty, pos, after, guard } = (do pure (.value (← nqOp 29 x y (ρ x) (ρ y)))) := rfl
end
theorem eq_AB {z : Abt} (h : AbtOk z) (x y : Operand) (w : World) : (eqOp 31 x y (.agg (List.toArray (abtC z))) (.agg (List.toArray (abtC z)))).run Try.prog w = .ok (.bool true) w := by
  obtain ⟨ls, hl⟩ := klS_AB h
  have hf : (Value.agg (List.toArray (abtC z))).formed Try.prog 31 = true := by
    have hc : Try.prog.cellsOf 31 = 37 := by kernel_rfl
    simp [Value.formed, Try.underlying31, hc, abtC_len h]
  obtain ⟨q, h1, h2⟩ := eqOp_agg (P := Try.prog) (m := 4) (x := x) (y := y) (w := w) (by decide) (by kernel_rfl) (by kernel_rfl) hf hf hl hl
  rw [h1, h2.2 rfl]
theorem nq_ID {l : List UInt8} (h : l.length = 32) (x y : Operand) (w : World) : (nqOp 29 x y (.agg (List.toArray (l.map b8))) (.agg (List.toArray (l.map b8)))).run Try.prog w = .ok (.bool false) w := by
  obtain ⟨ls, hl⟩ := klS_id h
  have hf : (Value.agg (List.toArray (l.map b8))).formed Try.prog 29 = true := by
    have hc : Try.prog.cellsOf 29 = 32 := by kernel_rfl
    simp [Value.formed, Try.underlying29, hc, h]
  obtain ⟨q, h1, h2⟩ := nqOp_agg (P := Try.prog) (m := 4) (x := x) (y := y) (w := w) (by decide) (by kernel_rfl) (by kernel_rfl) hf hf hl hl
  rw [h1, h2.2 rfl]; rfl
theorem nq_PA {p : Prt} (h : PrtOk p) (x y : Operand) (w : World) : (nqOp 83 x y (.agg (List.toArray (prtC p))) (.agg (List.toArray (prtC p)))).run Try.prog w = .ok (.bool false) w := by
  obtain ⟨ls, hl⟩ := klS_PA h
  have hf : (Value.agg (List.toArray (prtC p))).formed Try.prog 83 = true := by
    have hc : Try.prog.cellsOf 83 = 33 := by kernel_rfl
    simp [Value.formed, Try.underlying83, hc, prtC_len h]
  obtain ⟨q, h1, h2⟩ := nqOp_agg (P := Try.prog) (m := 4) (x := x) (y := y) (w := w) (by decide) (by kernel_rfl) (by kernel_rfl) hf hf hl hl
  rw [h1, h2.2 rfl]; rfl
attribute [local go_sem ↓] h_ldID h_ldAB h_stAB h_alAB h_ldPA h_eqAB h_nqID h_nqPA
attribute [local go_sem] r_ldAB r_stAB r_alAB
theorem sameAbt_any {x : Abt} {w : World} (h : AbtOk x) : Calls Try.prog 26 #[.agg (List.toArray (abtC x)), .agg (List.toArray (abtC x))] w fun e w' => e = .returned (.bool true) ∧ Below w.heap.size w w' := by
  have x1 : (List.toArray (abtC x)).size = 37 := by simpa using abtC_len h
  have x2 : OneC (List.toArray (abtC x)) := all_oneCell_toArray (abtC_one x)
  have q := fun x' y' w' => eq_AB h x' y' w'
  have hB := (Blk.new w 31 (List.toArray (abtC x))).alloc (.cells (List.toArray (abtC x)) 31)
  have hB2 := Blk.new (w.alloc (.cells (List.toArray (abtC x)) 31)) 31 (List.toArray (abtC x))
  have q1 := ldOp_all (P := Try.prog) (ty := 31) hB Try.underlying31 rfl (by rw [abtC_len h]; exact sizeAB)
  have hb : Below w.heap.size w ((w.alloc (.cells (List.toArray (abtC x)) 31)).alloc (.cells (List.toArray (abtC x)) 31)) := ((Below.refl _ _).alloc (Nat.le_refl _) _).alloc (by simp) _
  generalize abtC x = cx at *
  clear h hB hB2
  go_enter Try.func26, Try.ntmps26
  go_wp2
  go_ret
  exact ⟨rfl, hb⟩
set_option maxHeartbeats 1000000 in
theorem sameParts_any {a b : Option Addr} {n1 n2 c d : Nat} {l : List Prt} {w : World} (h1 : n1 = l.length) (h2 : n2 = l.length) (hl : Row w a (l.map prtC).flatten) (hm : Row w b (l.map prtC).flatten) (ho : ∀ r ∈ l, PrtOk r) (hc : l.length ≤ 65536) :
    Calls Try.prog 27 #[.slice a n1 c, .slice b n2 d] w fun e w' => e = .returned (.bool true) ∧ ∃ n, w' = w.drewN n := by
  subst h1 h2
  have hall := prts33 ho
  go_enter Try.func27, Try.ntmps27
  go_wp2
  go_loopw [5] (fun i w' => ∃ k : Nat, k ≤ l.length ∧ i = .int .i64 k ∧ ∃ n, w' = w.drewN n) (fun i _ => l.length - (intOf i).toNat)
  case atStart => exact ⟨0, Nat.zero_le _, rfl, 0, rfl⟩
  case round =>
    obtain ⟨k, hk, rfl, n, rfl⟩ := hrel
    by_cases hlt : k < l.length
    · have hpo := ho l[k] (List.getElem_mem hlt)
      have q1 : ∀ m, (ldOp 83 (.pointer (some ((hd a).add (k * 33))))).run Try.prog (w.drewN m) = .ok (.agg (List.toArray (prtC l[k]))) (w.drewN m) := fun m => ldOp_at (P := Try.prog) (ty := 83) ((hl.drewN m).elem (s := 33) hall (i := k) (c := prtC l[k]) (by simp [hlt])) Try.underlying83 rfl (by rw [prtC_len hpo]; exact sizePA)
      have q2 : ∀ m, (ldOp 83 (.pointer (some ((hd b).add (k * 33))))).run Try.prog (w.drewN m) = .ok (.agg (List.toArray (prtC l[k]))) (w.drewN m) := fun m => ldOp_at (P := Try.prog) (ty := 83) ((hm.drewN m).elem (s := 33) hall (i := k) (c := prtC l[k]) (by simp [hlt])) Try.underlying83 rfl (by rw [prtC_len hpo]; exact sizePA)
      have s1 := hl.elemSome (s := 33) hall (by decide) (i := k) (by simpa using hlt)
      have s2 := hm.elemSome (s := 33) hall (by decide) (i := k) (by simpa using hlt)
      have q3 := fun x y w' => nq_PA hpo x y w'
      have i0 : (0 : Int) ≤ (k : Int) := by omega
      have i1 : (k : Int) < (l.length : Int) := by omega
      generalize prtC l[k] = E at *
      go_wp2
      go_quiet (fail)
      go_wp2
      first
        | exact ⟨⟨k + 1, by omega, (by first | rfl | go_num | (congr 1; omega)), n + nq, by first | rfl | rw [drewN_two]⟩, by simp [intOf] <;> omega⟩
        | (refine ⟨?_, by simp [intOf] <;> omega⟩; (repeat apply Exists.intro); exact ⟨⟨k + 1, by omega, (by first | rfl | go_num | (congr 1; omega)), n + nq, by first | rfl | rw [drewN_two]⟩, rfl⟩)
    · obtain rfl : k = l.length := by omega
      go_wp2
      go_ret
      exact ⟨rfl, n, rfl⟩
def keyA (x : Abt) : List UInt8 × List UInt8 × Int := (x.name, x.id, x.time)
set_option maxHeartbeats 2000000 in
theorem sameList_any {a b : Option Addr} {n1 n2 c d : Nat} {l m : List Abt} {w : World} (h1 : n1 = l.length) (h2 : n2 = m.length) (hl : Row w a (l.map abtC).flatten) (hm : Row w b (m.map abtC).flatten) (ho : ∀ r ∈ l, AbtOk r) (ho2 : ∀ r ∈ m, AbtOk r) (hc : l.length ≤ 65536) (he : l.map keyA = m.map keyA) :
    Calls Try.prog 25 #[.slice a n1 c, .slice b n2 d] w fun e w' => e = .returned (.bool true) ∧ ∃ n, w' = w.drewN n := by
  have hlen : l.length = m.length := by have := congrArg List.length he; simpa using this
  rw [← hlen] at h2
  subst h1 h2
  have hE := Lib.hid he
  have hN := Lib.hid hlen
  clear he hlen
  go_enter Try.func25, Try.ntmps25
  go_wp2
  go_loopw [5] (fun i w' => ∃ k : Nat, k ≤ l.length ∧ i = .int .i64 k ∧ ∃ n, w' = w.drewN n) (fun i _ => l.length - (intOf i).toNat)
  case atStart => exact ⟨0, Nat.zero_le _, rfl, 0, rfl⟩
  case round =>
    obtain ⟨k, hk, rfl, n, rfl⟩ := hrel
    by_cases hlt : k < l.length
    · have hlt2 : k < m.length := by have := hN.out; omega
      have hxo := ho l[k] (List.getElem_mem hlt)
      have hyo := ho2 m[k] (List.getElem_mem hlt2)
      have hk : keyA l[k] = keyA m[k] := by
        have := congrArg (fun z => z[k]?) hE.out
        simpa [hlt, hlt2] using this
      unfold keyA at hk
      simp only [Prod.mk.injEq] at hk
      obtain ⟨e1, e2, e3⟩ := hk
      have q1 : ∀ t, (w.drewN t).cell? ((hd a).add (k * 37)) = some (.string (str m[k].name)) := fun t => by
        have := abt_cell (hl.drewN t) ho hlt (abtC_0 l[k]); rw [addr_add0, e1] at this; exact this
      have q2 : ∀ t, (w.drewN t).cell? ((hd b).add (k * 37)) = some (.string (str m[k].name)) := fun t => by
        have := abt_cell (hm.drewN t) ho2 hlt2 (abtC_0 m[k]); rw [addr_add0] at this; exact this
      have q3 := fun t => abt_ldID (hl.drewN t) ho hlt
      have q4 := fun t => abt_ldID (hm.drewN t) ho2 hlt2
      have q5 := fun t => cell_fld (abt_cell (hl.drewN t) ho hlt (abtC_33 hxo))
      have q6 := fun t => cell_fld (abt_cell (hm.drewN t) ho2 hlt2 (abtC_33 hyo))
      simp only [e2] at q3
      simp only [e3] at q5
      have q7 := fun x y w' => nq_ID hyo.id x y w'
      have s1 := hl.elemSome (s := 37) (abts37 ho) (by decide) (i := k) (by simpa using hlt)
      have s2 := hm.elemSome (s := 37) (abts37 ho2) (by decide) (i := k) (by simpa using hlt2)
      have i0 : (0 : Int) ≤ (k : Int) := by omega
      have i1 : (k : Int) < (l.length : Int) := by omega
      clear e1 e2 e3 hxo hyo
      generalize m[k].name = nm at *
      generalize m[k].id = id at *
      generalize m[k].time = tm at *
      go_wp2
      go_quiet (fail)
      go_wp2
      first
        | exact ⟨⟨k + 1, by omega, (by first | rfl | go_num | (congr 1; omega)), n + nq, by first | rfl | rw [drewN_two]⟩, by simp [intOf] <;> omega⟩
        | (refine ⟨?_, by simp [intOf] <;> omega⟩; (repeat apply Exists.intro); exact ⟨⟨k + 1, by omega, (by first | rfl | go_num | (congr 1; omega)), n + nq, by first | rfl | rw [drewN_two]⟩, rfl⟩)
    · obtain rfl : k = l.length := by omega
      go_wp2
      go_ret
      exact ⟨rfl, n, rfl⟩
end Go.Proofs.Ytakliplkabgmbaa
set_option maxRecDepth 20000
namespace Go.Proofs.Ytakliplkabgmbaa
open Go.ChangeShapes Go.WideShapes Go.ChangeAt Go.RowKit Go.Hd
section
variable (ρ : Operand → Value) (dst : Option Tmp) (ty : TypeId) (pos : String) (after : Array Edge) (guard : Option (Nat × Bool))
theorem h_bdID (parts : Array (Nat × Operand)) : execOp ρ { dst, op := .build 29 parts, type := ty, pos, after, guard } = (do pure (.value (← bdOp 29 (parts.map fun (i, x) => (i, ρ x))))) := rfl
end
theorem r_bdID0 {w : World} : (bdOp 29 #[]).run Try.prog w = .ok (.agg (List.toArray (zidL.map b8))) w := run_build w _ _ _ (by kernel_rfl)
theorem zid_ok {x : Abt} (h : AbtOk x) : AbtOk (zidX x) := ⟨rfl, h.time, h.items, h.bytes, h.name, h.comment⟩
/-- The id struck out. -/
theorem zid_store {W : World} {q : Nat} {x : Abt} (hx : AbtOk x) (hB : Blk W q 31 (abtC x)) :
    ∃ W2, (stoOp 29 (.pointer (some ⟨q, 1, none⟩)) (.agg (List.toArray (zidL.map b8)))).run Try.prog W = .ok () W2 ∧ Blk W2 q 31 (abtC (zidX x)) ∧ W.grownBy W2 (some q) := by
  have hl := abtC_len hx
  obtain ⟨w4, qs, hB4, hg4⟩ := stOp_blk (P := Try.prog) (ty := 29) (o := 1) (cs := zidL.map b8) hB (by rw [hl]; decide) (by exact sizeID) (b8_one _)
  have hi : (x.id.map b8).length = 32 := by rw [List.length_map, hx.id]
  have e : (abtC x).take 1 ++ zidL.map b8 ++ (abtC x).drop (1 + (zidL.map b8).length) = abtC (zidX x) := by
    have d33 : (abtC x).drop (1 + (zidL.map b8).length) = [.int .i64 x.time, strV x.comment, .int .i64 x.items, .int .i64 x.bytes] := by
      show List.drop (1 + 32) (strV x.name :: (x.id.map b8 ++ _)) = _
      rw [Nat.add_comm, List.drop_succ_cons]
      exact List.drop_left' hi
    rw [d33]; rfl
  rw [e] at hB4
  exact ⟨w4, qs, hB4, hg4⟩
attribute [local go_sem ↓] h_ldAB h_stAB h_alAB h_bsAB h_ldID h_stID h_bdID
attribute [local go_sem] r_ldAB r_stAB r_alAB r_bsAB r_bdID0
set_option maxHeartbeats 8000000 in
theorem mback_law {a a3 : Option Addr} {c c3 : Nat} {l : List Abt} {x : Abt} {ps : List Prt} {W : World} (hc3 : ps.length ≤ c3) (hlm : l.length ≤ maxLen) (hr : Row W a (l.map abtC).flatten) (hr3 : Row W a3 (ps.map prtC).flatten) (hok : ∀ x ∈ l, AbtOk x) (hx : AbtOk x) (hps : ∀ p ∈ ps, PrtOk p) :
    Calls Try.prog 6 #[.slice a l.length c, .agg (List.toArray (abtC x)), .slice a3 ps.length c3] W fun e W' => e = .returned (.bool true) ∧ Below W.heap.size W W' := by
  have x1 : (List.toArray (abtC x)).size = 37 := by simpa using abtC_len hx
  have x2 : OneC (List.toArray (abtC x)) := all_oneCell_toArray (abtC_one x)
  have zab := zAB_size
  have hB0 : Blk (W.alloc (.cells (List.toArray (abtC x)) 31)) W.heap.size 31 (abtC x) := Blk.new _ _ _
  have hb0 : Below W.heap.size W (W.alloc (.cells (List.toArray (abtC x)) 31)) := (Below.refl _ _).alloc (Nat.le_refl _) _
  have hr0 := hr.below hb0
  have hs0 : (W.alloc (.cells (List.toArray (abtC x)) 31)).heap.size = W.heap.size + 1 := by simp
  have hcut := fun w' (hb : Below W.heap.size W w') => abtCut_any (c := c) (m := 70) rfl (hr.below hb) hok (by decide) hlm
  have hfew := fun w' => prtFew_any (a := a3) (c := c3) (l := ps) (w := w') rfl hc3
  have hP3 := prt_take 70 hps hr3
  have hPok : ∀ p ∈ ps.take 70, PrtOk p := fun p h => hps p (List.mem_of_mem_take h)
  have hPl : (ps.take 70).length ≤ 1000 := by simp; omega
  have hLok : ∀ y ∈ cutL l 70, AbtOk y := cutL_ok hok
  have hLl : (cutL l 70).length ≤ 1000 := Nat.le_trans cutL_len (by decide)
  have hcx := cutX_ok hx
  have hcut2 : ∀ w1 w2 : World, w2 = w1.alloc (.cells (List.toArray (abtC x)) 31) → Calls Try.prog 12 #[.slice (some ⟨w1.heap.size, 0, none⟩) 1 1, .int .i64 1] w2 fun e w' => ∃ p2 c', e = .returned (.slice (some p2) 1 c') ∧ Row w' (some p2) (abtC (cutX x)) ∧ Below w1.heap.size w1 w' := by
    rintro w1 w2 rfl
    have hRx : Row (w1.alloc (.cells (List.toArray (abtC x)) 31)) (some ⟨w1.heap.size, 0, none⟩) ([x].map abtC).flatten := by
      have := (Blk.new w1 31 (List.toArray (abtC x))).row; simpa using this
    refine (abtCut_any (c := 1) (m := 1) (l := [x]) rfl hRx (by simp; exact hx) (by decide) (by simp [maxLen])).mono ?_
    rintro e w' ⟨a', c', rfl, h1, _, h2⟩
    rw [cutL_one] at h1 ⊢
    have h3 : Row w' a' (abtC (cutX x)) := by simpa using h1
    have h4 := h3.isSome (i := 0) (by rw [abtC_len hcx]; decide)
    obtain ⟨p2, rfl⟩ := Option.isSome_iff_exists.1 h4
    exact ⟨p2, c', rfl, h3, ((Below.refl _ _).alloc (Nat.le_refl _) _).trans (h2.mono (by simp))⟩
  have hxl := abtC_len hx
  have q1' := fun (w' : World) (h : Blk w' W.heap.size 31 (abtC x)) => ldOp_all (P := Try.prog) (ty := 31) h Try.underlying31 rfl (by rw [hxl]; exact sizeAB)
  have qs' := fun (w' : World) (h : Blk w' W.heap.size 31 (abtC x)) => stOp_blk (P := Try.prog) (ty := 31) (o := 0) (cs := abtC (cutX x)) h (by rw [hxl, abtC_len hcx]; decide) (by rw [abtC_len hcx]; exact sizeAB) (abtC_one _)
  have hlv := fun w' => lives23_any w'
  clear hr hr0 hok hx hps hlm hc3
  generalize abtC x = cx0 at *
  generalize cutX x = X at *
  generalize ps.take 70 = P3 at *
  generalize cutL l 70 = L1 at *
  have hAl := abtC_len hcx
  have z1 : (List.toArray (abtC X)).size = 37 := by simpa using hAl
  have z2 : OneC (List.toArray (abtC X)) := all_oneCell_toArray (abtC_one _)
  go_enter Try.func6, Try.ntmps6
  go_wp2_with fail
  refine (hcut _ hb0).mono ?_
  rintro e w1 ⟨b1, d1, rfl, hR1, hbk1, hb1⟩
  go_wp2_with fail
  refine (hfew _).mono ?_
  rintro e w2 ⟨d3, rfl, rfl⟩
  have hB1 := hB0.below hb1
  have q1 := q1' _ hB1
  go_wp2_with fail
  refine (hcut2 w1 _ rfl).mono ?_
  rintro e w3 ⟨p2, d2, rfl, hR2, hb3⟩
  have hB3 := hB1.below hb3
  have q2 : (ldOp 31 (.pointer (some p2))).run Try.prog w3 = .ok (.agg (List.toArray (abtC X))) w3 := ldOp_at (P := Try.prog) (ty := 31) (cs := abtC X) (fun j v hv => hR2.2 j v hv) Try.underlying31 rfl (by rw [hAl]; exact sizeAB)
  obtain ⟨w4, qs, hB4, hg4⟩ := qs' _ hB3
  have hB4' : Blk w4 W.heap.size 31 (abtC X) := by
    have := hB4; simp only [List.take_zero, List.nil_append, Nat.zero_add, hAl, ← hxl, List.drop_length, List.append_nil] at this; exact this
  have hR4 : Row w4 b1 (L1.map abtC).flatten := (hR1.below hb3).grown hg4 (fun h => by
    have := hbk1 (by
      rcases Nat.eq_zero_or_pos L1.length with h0 | h0
      · obtain rfl := List.eq_nil_of_length_eq_zero h0; simp at h
      · exact h0)
    omega)
  have hP1 := hP3.below (hb0.trans (hb1.mono (by omega)))
  have hP4 : Row w4 a3 (P3.map prtC).flatten := (hP1.below hb3).grown hg4 (fun h => by have := hP3.block_lt h; omega)
  have hP4f : ∀ w5 w6 : World, Row w5 a3 (P3.map prtC).flatten → w5.grownBy w6 (some W.heap.size) → Row w6 a3 (P3.map prtC).flatten := fun w5 w6 h hg => h.grown hg (fun h => by have := hP3.block_lt h; omega)
  have hbW4 : Below W.heap.size W w4 := (hb0.trans ((hb1.mono (by omega)).trans (hb3.mono (by have := hb1.size; omega)))).trans ⟨hg4.os, hg4.tape, hg4.output, hg4.size, fun i hi => hg4.block i (by have := hb1.size; have := hb3.size; omega) (fun e => by cases e; omega)⟩
  clear hB4 hg4 hB3 hB1 hB0 hb1 hb3 hR1 hP1 hP3 hcut hcut2 hfew q1' qs' hbk1 hR2 hb0 hs0 x1 x2
  -- the list
  have hml := fun (w' : World) (h : Row w' b1 (L1.map abtC).flatten) => mlist_any (c := d1) rfl h hLok hLl
  have hback1 := fun (b : List UInt8) (h : metaL L1 = (b, 0)) => list_back hLok h
  obtain ⟨BL, EL, hME⟩ : ∃ BL EL, metaL L1 = (BL, EL) := ⟨_, _, rfl⟩
  simp only [hME] at hml hback1
  go_upto_region 3 with (fail)
  clear q1 q2 qs
  go_wp2_with fail
  refine (hml _ hR4).mono ?_
  rintro e w5 ⟨u1, rfl, hu1, hb5⟩
  obtain ⟨a5, c5, rfl, hc5, hm5, hu1⟩ := hu1
  have hB5 := hB4'.below hb5
  have hP5 := hP4.below hb5
  have hR5 := hR4.below hb5
  have hbW5 := hbW4.trans (hb5.mono hbW4.size)
  clear hB4' hP4 hR4 hbW4 hb5 hml
  go_upto_if 36 with (fail)
  go_cut [7] (fun _ wx => Below w5.heap.size w5 wx)
  case first =>
    by_cases hE : EL = 0
    · subst hE
      obtain ⟨k1, k2, k3⟩ := hback1 BL rfl
      have hrl := readList_any (w := w5) (c := c5) rfl hu1 (by unfold maxLen; omega)
      unfold RdListP at hrl
      rw [k1] at hrl
      have har := fun (w' : World) (h : Row w' a5 (BL.map b8)) => readArchive_any (w := w') (c := c5) rfl h (by unfold maxLen; omega)
      unfold RdArcP at har
      simp only [k2] at har
      have hLs : ∀ y ∈ L1.map stripA, AbtOk y := by
        intro y hy
        obtain ⟨z, hz, rfl⟩ := List.mem_map.1 hy
        have h := hLok z hz
        exact ⟨h.id, h.time, i0_64, i0_64, h.name, Nat.zero_le _⟩
      have hsl := fun (w' : World) (b2 : Option Addr) (d2 : Nat) (h1 : Row w' b1 (L1.map abtC).flatten) (h2 : Row w' b2 ((L1.map stripA).map abtC).flatten) => sameList_any (c := d1) (d := d2) rfl rfl h1 h2 hLok hLs (by omega) (by rw [List.map_map]; rfl)
      have zo : OneC (List.toArray (abtC abt0)) := all_oneCell_toArray (abtC_one abt0)
      have zs : (List.toArray (abtC abt0)).size = 37 := rfl
      generalize abtC abt0 = z0 at *
      generalize L1.map stripA = L2 at *
      clear hback1 hLs k1 k2 k3
      go_wp2_with fail
      refine hrl.mono ?_
      rintro e w6 ⟨a6, c6, rfl, hr6, hb6⟩
      go_wp2_with fail
      refine (har _ (hu1.below hb6)).mono ?_
      rintro e w7 ⟨a7, c7, rfl, hr7, hb7, _⟩
      have hb8 : Below w7.heap.size w7 (w7.alloc (.cells (List.toArray z0) 31)) := (Below.refl _ _).alloc (Nat.le_refl _) _
      have hb68 := Gr.trans hb7 hb8
      have hb58 := Gr.trans hb6 hb68
      go_upto_region 7 with (fail)
      generalize w7.alloc (.cells (List.toArray z0) 31) = w8 at *
      go_wp2_with fail
      refine (hsl _ _ _ (hR5.below hb58) (hr6.below hb68)).mono ?_
      rintro e w9 ⟨rfl, n9, rfl⟩
      have hb59 : Below w5.heap.size w5 (w8.drewN n9) := Gr.trans hb58 (Below.drewN (Below.refl _ _) _)
      go_wp2_with fail
      go_meet
      exact hb59
    · have t1 : (EL == 0) = false := by simpa using hE
      have hb55 := Below.refl w5.heap.size w5
      go_wp2_with fail
      go_meet
      exact hb55
  case rest =>
    have hB6 := hB5.below hcut
    have hP6 := hP5.below hcut
    have hbW6 := hbW5.trans (hcut.mono hbW5.size)
    clear hB5 hP5 hR5 hbW5 hu1 hcut hback1 hME hLok
    have hma := march_any (c := d3) rfl hP6 hPok hcx hPl
    have hback2 := fun (b : List UInt8) (h : metaA X P3 = (b, 0)) => arch_back hcx hPok h
    obtain ⟨BA, EA, hMA⟩ : ∃ BA EA, metaA X P3 = (BA, EA) := ⟨_, _, rfl⟩
    simp only [hMA] at hma hback2
    have q6 := ldOp_all (P := Try.prog) (ty := 31) hB6 Try.underlying31 rfl (by rw [hAl]; exact sizeAB)
    go_wp2_with fail
    refine hma.mono ?_
    rintro e w7 ⟨u2, rfl, hu2, hb7⟩
    obtain ⟨a7, c7, rfl, hc7, hm7, hu2⟩ := hu2
    have hB7 := hB6.below hb7
    have hP7 := hP6.below hb7
    have hbW7 := hbW6.trans (hb7.mono hbW6.size)
    clear hB6 hP6 hb7 hbW6 q6 hma
    by_cases hE : EA = 0
    · subst hE
      obtain ⟨k1, k2, k3⟩ := hback2 BA rfl
      have har := readArchive_any (w := w7) (c := c7) rfl hu2 (by unfold maxLen; omega)
      unfold RdArcP at har
      simp only [k1] at har
      have hrl := fun (w' : World) (h : Row w' a7 (BA.map b8)) => readList_any (w := w') (c := c7) rfl h (by unfold maxLen; omega)
      unfold RdListP at hrl
      simp only [k2] at hrl
      have hst := fun (w' : World) (h : Blk w' W.heap.size 31 (abtC X)) => zid_store hcx h
      have hzo := zid_ok hcx
      have hsa := fun (w' : World) => sameAbt_any (w := w') hzo
      have hsp := fun (w' : World) (b2 : Option Addr) (d2 : Nat) (h1 : Row w' a3 (P3.map prtC).flatten) (h2 : Row w' b2 (P3.map prtC).flatten) => sameParts_any (c := d3) (d := d2) rfl rfl h1 h2 hPok (by omega)
      have zl := abtC_len hzo
      have zs : (List.toArray (abtC (zidX X))).size = 37 := by simpa using zl
      have zo : OneC (List.toArray (abtC (zidX X))) := all_oneCell_toArray (abtC_one _)
      clear hback2 hMA k1 k2 k3 hcx hzo z1 z2
      generalize abtC (zidX X) = zc at *
      generalize abtC X = xc at *
      go_wp2_with fail
      refine har.mono ?_
      rintro e w8 ⟨a8, c8, rfl, hr8, hb8, hf8⟩
      have hb9 : Below w8.heap.size w8 (w8.alloc (.cells (List.toArray zc) 31)) := (Below.refl _ _).alloc (Nat.le_refl _) _
      have hB9 : Blk (w8.alloc (.cells (List.toArray zc) 31)) w8.heap.size 31 zc := by simpa using Blk.new w8 31 (List.toArray zc)
      have hb79 := Gr.trans hb8 hb9
      have hr9 := hr8.below hb9
      have hW8 : W.heap.size < w8.heap.size := Nat.lt_of_lt_of_le hB7.lt hb8.size
      go_upto_region 12 with (fail)
      generalize w8.alloc (.cells (List.toArray zc) 31) = w9 at *
      generalize hq8 : w8.heap.size = q8 at *
      go_wp2_with fail
      refine (hrl _ (hu2.below hb79)).mono ?_
      rintro e w10 ⟨a10, c10, rfl, hr10, hb10⟩
      have hb710 := Gr.trans hb79 hb10
      obtain ⟨w11, ws, hB11, hg11⟩ := hst _ (hB7.below hb710)
      have hB11' := (hB9.below hb10).keptBy hg11 (fun e => by cases e; omega)
      have hr11 := (hr9.below hb10).grown hg11 (fun h => by have h1 := hf8 h; have h2 := hB7.lt; omega)
      have hP11 := hP4f _ _ (hP7.below hb710) hg11
      have hbW11 : Below W.heap.size W w11 := (hbW7.trans (hb710.mono hbW7.size)).trans ⟨hg11.os, hg11.tape, hg11.output, hg11.size, fun i hi => hg11.block i (Nat.lt_of_lt_of_le (Nat.lt_of_lt_of_le hi hbW7.size) hb710.size) (fun e => by cases e; omega)⟩
      have q1 := ldOp_all (P := Try.prog) (ty := 31) hB11 Try.underlying31 rfl (by rw [zl]; exact sizeAB)
      have q2 := ldOp_all (P := Try.prog) (ty := 31) hB11' Try.underlying31 rfl (by rw [zl]; exact sizeAB)
      clear hr9 hr8 hB9 hb8 hb9 hb79 hb10 hb710 hB7 hP7 hst hrl har hr10 hu2 hf8
      go_wp2_with fail
      refine (hsa _).mono ?_
      rintro e w12 ⟨rfl, hb12⟩
      clear q1 q2
      go_wp2_with fail
      refine (hsp _ _ _ (hP11.below hb12) (hr11.below hb12)).mono ?_
      rintro e w13 ⟨rfl, n13, rfl⟩
      have hb113 : Below w11.heap.size w11 (w12.drewN n13) := Gr.trans hb12 (Below.drewN (Below.refl _ _) _)
      generalize w12.drewN n13 = w13 at *
      go_wp2_with fail
      refine (hlv _).mono ?_
      rintro e w14 ⟨rfl, hb14⟩
      go_wp2
      go_ret
      exact ⟨rfl, hbW11.trans ((Gr.trans hb113 hb14).mono hbW11.size)⟩
    · have t1 : (EA == 0) = false := by simpa using hE
      go_wp2_with fail
      refine (hlv _).mono ?_
      rintro e w8 ⟨rfl, hb8⟩
      go_wp2
      go_ret
      exact ⟨rfl, hbW7.trans (hb8.mono hbW7.size)⟩
section
variable {H : Type} {enc : TypeId × Value → H} {W : World} {base : Nat} {v0 v1 v2 : Value} {d0 d1 d2 : DataW H} {p0 p1 p2 : List MemPlace}
theorem metaBack_calls (o0 : Value.okWide Try.prog W .any base 27 v0) (h0 : DataW.Trod enc Try.prog W 0 (fun _ => true) true 27 v0 d0 p0)
    (o1 : Value.okWide Try.prog W .any base 31 v1) (h1 : DataW.Trod enc Try.prog W 0 (fun _ => true) true 31 v1 d1 p1)
    (o2 : Value.okWide Try.prog W .any base 32 v2) (h2 : DataW.Trod enc Try.prog W 0 (fun _ => true) true 32 v2 d2 p2) :
    Calls Try.prog 6 #[v0, v1, v2] W fun e W' => e = .returned (.bool true) ∧ Below W.heap.size W W' := by
  obtain ⟨a1, n1, c1, l1, rfl, rfl, hc1, hm1, r1, k1⟩ := open_all (C := abtC) Try.underlying27 (by kernel_rfl) abt_of o0 h0
  obtain ⟨x, rfl, hx⟩ := open_abt o1 h1
  obtain ⟨a2, n2, c2, l2, rfl, rfl, hc2, hm2, r2, k2⟩ := open_all (C := prtC) Try.underlying32 (by kernel_rfl) prt_of o2 h2
  exact mback_law hc2 (by omega) r1 r2 k1 hx k2
end
end Go.Proofs.Ytakliplkabgmbaa
set_option maxRecDepth 20000
namespace Go.Proofs.Ytakliplkabgmbaa
open Go.RowKit Go.Hd Go.ChangeShapes Go.WideShapes Go.ChangeAt
attribute [local go_sem ↓] h_ldAB h_stAB h_alAB
attribute [local go_sem] r_ldAB r_stAB r_alAB
set_option maxHeartbeats 4000000 in
theorem magain_law {W : World} {a0 : Option Addr} {c0 : Nat} {l : List UInt8} (hl : Row W a0 (l.map b8)) (hc0 : l.length ≤ c0) (_hm0 : c0 ≤ maxLen) :
    Calls Try.prog 7 #[.slice a0 l.length c0] W fun e W' => e = .returned (.bool true) ∧ Below W.heap.size W W' := by
  have zab := zAB_size
  obtain ⟨L, hL⟩ : ∃ L, L = l.take 3000 := ⟨_, rfl⟩
  have hLl : min l.length (3000 : Int).toNat = L.length := by rw [hL, List.length_take]; exact Nat.min_comm _ _
  have hcut := cut_any a0 l.length c0 3000 W (by decide) hc0
  rw [hLl] at hcut
  have hLr : Row W a0 (L.map b8) := by
    have := hl.take 3000
    rw [← List.map_take, ← hL] at this
    exact this
  have hLm : L.length ≤ 3000 := by rw [hL]; simp; omega
  obtain ⟨ok1, ok2⟩ := lstR_ok L
  obtain ⟨ok3, ok4, ok5⟩ := arcR_ok L
  have hrl := fun (w : World) (h : Row w a0 (L.map b8)) => readList_any (c := c0) rfl h (by unfold maxLen; omega)
  have har := fun (w : World) (h : Row w a0 (L.map b8)) => readArchive_any (c := c0) rfl h (by unfold maxLen; omega)
  unfold RdListP at hrl
  unfold RdArcP at har
  have hg1 : (lstR L).2 = 0 → metaL (lstR L).1 = (L, 0) := fun h => (list_again h).1
  have hg2 : (arcR L).2.2 = 0 → metaA (arcR L).1 (arcR L).2.1 = (L, 0) := fun h => (arch_again h).1
  have hg3 : (lstR L).2 = 0 → (arcR L).2.2 = 0 → False := not_both
  have hsb := fun (a : Option Addr) (c : Nat) (w : World) (h1 : Row w a (L.map b8)) (h2 : Row w a0 (L.map b8)) => same_any (c := c) (d := c0) rfl rfl h1 h2 (by unfold maxLen; omega)
  rw [show (L == L) = true by simp] at hsb
  have hlv := fun w' => lives23_any w'
  clear hL hLl hl hLm
  generalize (lstR L).1 = Y at *
  generalize (lstR L).2 = E at *
  generalize (arcR L).1 = X at *
  generalize (arcR L).2.1 = Z at *
  generalize (arcR L).2.2 = F at *
  have hml := fun (a : Option Addr) (c : Nat) (w : World) (h1 : Row w a (Y.map abtC).flatten) => mlist_any (c := c) rfl h1 ok1 (by omega)
  have hma := fun (a : Option Addr) (c : Nat) (w : World) (h1 : Row w a (Z.map prtC).flatten) => march_any (c := c) rfl h1 ok4 ok3 (by omega)
  have xl := abtC_len ok3
  have x1 : (List.toArray (abtC X)).size = 37 := by simpa using xl
  have x2 : OneC (List.toArray (abtC X)) := all_oneCell_toArray (abtC_one X)
  generalize abtC X = cx at *
  clear ok1 ok2 ok3 ok4 ok5
  go_enter Try.func7, Try.ntmps7
  go_wp2_with fail
  refine hcut.mono ?_
  rintro e w0 ⟨rfl, rfl⟩
  clear hcut
  go_wp2_with fail
  refine (hrl _ hLr).mono ?_
  rintro e w2 ⟨a2, c2, rfl, hr2, hb2⟩
  go_wp2_with fail
  refine (har _ (hLr.below hb2)).mono ?_
  rintro e w4 ⟨a4, c4, rfl, hr4, hb4, _⟩
  have hb4' : Below w4.heap.size w4 (w4.alloc (.cells (List.toArray cx) 31)) := (Below.refl _ _).alloc (Nat.le_refl _) _
  have hB4 : Blk (w4.alloc (.cells (List.toArray cx) 31)) w4.heap.size 31 cx := by simpa using Blk.new w4 31 (List.toArray cx)
  have hb45 := Gr.trans hb4 hb4'
  have hb15 := Gr.trans hb2 hb45
  have hr2 := hr2.below hb45
  have hr4 := hr4.below hb4'
  have hr0 := hLr.below hb15
  clear hb4 hb4' hb2 hb45 har hrl
  go_upto_if 26 with (fail)
  generalize w4.alloc (.cells (List.toArray cx) 31) = w5 at *
  generalize w4.heap.size = q4 at *
  by_cases hE : E = 0
  · subst hE
    have hg1' := hg1 rfl
    have hF : F ≠ 0 := fun h => hg3 rfl h
    have tF1 : (F == 0) = false := by simpa using hF
    have tF2 : (F != 0) = true := by simpa using hF
    simp only [hg1'] at hml
    clear hg1 hg2 hg3 hg1' hma hF
    go_wp2_with fail
    refine (hml _ _ _ hr2).mono ?_
    rintro e w6 ⟨u6, rfl, hu6, hb6⟩
    obtain ⟨a6, c6, rfl, hc6, hm6, hu6⟩ := hu6
    go_wp2_with fail
    refine (hsb _ _ _ hu6 (hr0.below hb6)).mono ?_
    rintro e w7 ⟨rfl, n7, rfl⟩
    have hb57 : Below w5.heap.size w5 (w6.drewN n7) := Gr.trans hb6 (Below.drewN (Below.refl _ _) _)
    generalize w6.drewN n7 = w7 at *
    go_wp2_with fail
    refine (hlv _).mono ?_
    rintro e w8 ⟨rfl, hb8⟩
    go_wp2
    go_ret
    exact ⟨rfl, Gr.trans hb15 (Gr.trans hb57 hb8)⟩
  · have tE1 : (E == 0) = false := by simpa using hE
    have tE2 : (E != 0) = true := by simpa using hE
    clear hg1 hg3 hml
    by_cases hF : F = 0
    · subst hF
      have hg2' := hg2 rfl
      have q1 := ldOp_all (P := Try.prog) (ty := 31) hB4 Try.underlying31 rfl (by rw [xl]; exact sizeAB)
      simp only [hg2'] at hma
      clear hg2 hg2' hE
      go_wp2_with fail
      refine (hma _ _ _ hr4).mono ?_
      rintro e w6 ⟨u6, rfl, hu6, hb6⟩
      obtain ⟨a6, c6, rfl, hc6, hm6, hu6⟩ := hu6
      clear q1
      go_wp2_with fail
      refine (hsb _ _ _ hu6 (hr0.below hb6)).mono ?_
      rintro e w7 ⟨rfl, n7, rfl⟩
      have hb57 : Below w5.heap.size w5 (w6.drewN n7) := Gr.trans hb6 (Below.drewN (Below.refl _ _) _)
      generalize w6.drewN n7 = w7 at *
      go_wp2_with fail
      refine (hlv _).mono ?_
      rintro e w8 ⟨rfl, hb8⟩
      go_wp2
      go_ret
      exact ⟨rfl, Gr.trans hb15 (Gr.trans hb57 hb8)⟩
    · have tF1 : (F == 0) = false := by simpa using hF
      clear hg2 hma hE hF
      go_wp2_with fail
      refine (hlv _).mono ?_
      rintro e w8 ⟨rfl, hb8⟩
      go_wp2
      go_ret
      exact ⟨rfl, Gr.trans hb15 hb8⟩
theorem metaAgain_calls {H : Type} {enc : TypeId × Value → H} {W : World} {base : Nat} {v0 : Value} {d0 : DataW H} {p0 : List MemPlace}
    (o0 : Value.okWide Try.prog W .any base 35 v0) (h0 : DataW.Trod enc Try.prog W 0 (fun _ => true) true 35 v0 d0 p0) :
    Calls Try.prog 7 #[v0] W fun e W' => e = .returned (.bool true) ∧ Below W.heap.size W W' := by
  obtain ⟨a, n, c, l, rfl, rfl, hc, hm, hr⟩ := open_byt Try.underlying35 Try.underlying5 (by kernel_rfl) o0 h0
  exact magain_law hr hc hm
end Go.Proofs.Ytakliplkabgmbaa
