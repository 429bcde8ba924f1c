/- Joined: what one statement of this layer stands on, part 12 of 17; nothing is assumed. -/
import Derived.Test.YtpchogicdnfggaaDoorKX6
import Derived.Test.YtpchogicdnfggaaDoorKX8
import Derived.Test.YtpchogicdnfggaaDoorKX11
set_option maxRecDepth 20000
namespace Go.Proofs.YtpchogicdnfggaaDoor
open Go.RowKit Go.Hd
theorem normV_kind (v : PV) : (normV v).kind = v.kind := by
  cases v with
  | mk k n b t ks l =>
    rw [normV_mk]
    by_cases h3 : k = 3
    · rw [if_pos h3]; exact h3.symm
    by_cases h4 : k = 4
    · rw [if_neg h3, if_pos h4]; exact h4.symm
    by_cases h5 : k = 5
    · rw [if_neg h3, if_neg h4, if_pos h5]; exact h5.symm
    by_cases h6 : k = 6
    · rw [if_neg h3, if_neg h4, if_neg h5, if_pos h6]; exact h6.symm
    by_cases h7 : k = 7
    · rw [if_neg h3, if_neg h4, if_neg h5, if_neg h6, if_pos h7]; exact h7.symm
    rw [if_neg h3, if_neg h4, if_neg h5, if_neg h6, if_neg h7]; rfl
theorem normV_3 {v : PV} (h : v.kind = 3) : normV v = pNum v.int := by
  cases v with
  | mk k n b t ks l => have h' : k = 3 := h; subst h'; rw [normV_mk, if_pos rfl]; rfl
theorem normV_4 {v : PV} (h : v.kind = 4) : normV v = pByt v.bytes := by
  cases v with
  | mk k n b t ks l => have h' : k = 4 := h; subst h'; rw [normV_mk, if_neg (by decide), if_pos rfl]; rfl
theorem normV_5 {v : PV} (h : v.kind = 5) : normV v = pTxt v.text := by
  cases v with
  | mk k n b t ks l => have h' : k = 5 := h; subst h'; rw [normV_mk, if_neg (by decide), if_neg (by decide), if_pos rfl]; rfl
theorem normV_6 {v : PV} (h : v.kind = 6) : normV v = pList (normL v.list) := by
  cases v with
  | mk k n b t ks l => have h' : k = 6 := h; subst h'; rw [normV_mk, if_neg (by decide), if_neg (by decide), if_neg (by decide), if_pos rfl]; rfl
theorem normV_7 {v : PV} (h : v.kind = 7) : normV v = .mk 7 0 [] [] v.keys (normL v.list) := by
  cases v with
  | mk k n b t ks l => have h' : k = 7 := h; subst h'; rw [normV_mk, if_neg (by decide), if_neg (by decide), if_neg (by decide), if_neg (by decide), if_pos rfl]; rfl
theorem is_num {v : PV} {n : Int} (h : normV v = pNum n) : v.kind = 3 ∧ v.int = n := by
  have hk : v.kind = 3 := by rw [← normV_kind, h]; rfl
  rw [normV_3 hk] at h
  exact ⟨hk, congrArg PV.int h⟩
theorem is_byt {v : PV} {b : List UInt8} (h : normV v = pByt b) : v.kind = 4 ∧ v.bytes = b := by
  have hk : v.kind = 4 := by rw [← normV_kind, h]; rfl
  rw [normV_4 hk] at h
  exact ⟨hk, congrArg PV.bytes h⟩
theorem is_txt {v : PV} {t : List UInt8} (h : normV v = pTxt t) : v.kind = 5 ∧ v.text = t := by
  have hk : v.kind = 5 := by rw [← normV_kind, h]; rfl
  rw [normV_5 hk] at h
  exact ⟨hk, congrArg PV.text h⟩
theorem is_lst {v : PV} {l : List PV} (h : normV v = pList l) : v.kind = 6 ∧ normL v.list = l := by
  have hk : v.kind = 6 := by rw [← normV_kind, h]; rfl
  rw [normV_6 hk] at h
  exact ⟨hk, congrArg PV.list h⟩
theorem normV_num (n : Int) : normV (pNum n) = pNum n := normV_3 rfl
theorem normV_byt (n : List UInt8) : normV (pByt n) = pByt n := normV_4 rfl
theorem normV_txt (n : List UInt8) : normV (pTxt n) = pTxt n := normV_5 rfl
theorem normV_lst (l : List PV) : normV (pList l) = pList (normL l) := normV_6 rfl
theorem normL_nil : normL [] = [] := by rw [normL]
theorem normL_cons (x : PV) (l : List PV) : normL (x :: l) = normV x :: normL l := by rw [normL]
theorem normV_pt (p : Prt) : normV (ptV p) = ptV p := by
  unfold ptV
  rw [normV_lst, normL_cons, normL_cons, normL_nil, normV_byt, normV_num]
theorem normL_pts : ∀ l : List Prt, normL (l.map ptV) = l.map ptV
  | [] => normL_nil
  | p :: l => by rw [List.map_cons, normL_cons, normV_pt, normL_pts l]
theorem getV_norm (v : PV) (key : List UInt8) : getV v key = normV (fldV v key) := by
  have h0 : normV pv0 = pv0 := by unfold pv0; rw [normV_mk]; rfl
  unfold getV fldV
  by_cases h : v.kind = 7
  · rw [if_pos h, if_pos h]
    cases findK v.keys v.list key with
    | none => exact h0.symm
    | some x => rfl
  · rw [if_neg h, if_neg h, h0]
def z32 : List UInt8 := List.replicate 32 0
/-- A part, as the document reads it. -/
def refP (v : PV) : Prt := match v.list with
  | [a, b] => if a.bytes.length = 32 then ⟨a.bytes, b.int⟩ else ⟨z32, 0⟩
  | _ => ⟨z32, 0⟩
/-- A part, as the program reads it. -/
def partV (v : PV) : Option Prt := if v.kind = 6 then (match v.list with
  | [a, b] => if a.kind = 4 ∧ a.bytes.length = 32 ∧ b.kind = 3 then some ⟨a.bytes, b.int⟩ else none
  | _ => none) else none
theorem refP_id (v : PV) : (refP v).id.length = 32 := by
  unfold refP
  split
  · split
    · assumption
    · simp [z32]
  · simp [z32]
theorem partV_id {v : PV} {p : Prt} (h : partV v = some p) : p.id.length = 32 := by
  unfold partV at h
  split at h
  · split at h
    · split at h
      · rename_i h1; cases h; exact h1.2.1
      · cases h
    · cases h
  · cases h
theorem refP_pt {a : PV} {p : Prt} (h : normV a = ptV p) (hp : p.id.length = 32) : refP a = p := by
  obtain ⟨_, h2⟩ := is_lst h
  have hl : a.list.length = 2 := by rw [← normL_len, h2]; rfl
  unfold refP
  generalize a.list = l at *
  match l, hl, h2 with
  | [x, y], _, h2 =>
    rw [normL_cons, normL_cons, normL_nil] at h2
    obtain ⟨e1, e2⟩ := List.cons.inj h2
    obtain ⟨e2, _⟩ := List.cons.inj e2
    have h3 := (is_byt e1).2
    have h4 := (is_num e2).2
    simp only [h3, h4, if_pos hp]
theorem refP_pts : ∀ {l : List PV} {ps : List Prt}, normL l = ps.map ptV → (∀ p ∈ ps, p.id.length = 32) → l.map refP = ps
  | [], [], _, _ => rfl
  | [], p :: ps, h, _ => by rw [normL_nil] at h; cases h
  | a :: l, [], h, _ => by rw [normL_cons] at h; cases h
  | a :: l, p :: ps, h, hp => by
    rw [normL_cons, List.map_cons] at h
    obtain ⟨e1, e2⟩ := List.cons.inj h
    rw [List.map_cons, refP_pt e1 (hp p (List.mem_cons_self ..)), refP_pts e2 (fun q hq => hp q (List.mem_cons_of_mem _ hq))]
theorem partV_pt {p : Prt} (hp : p.id.length = 32) : partV (ptV p) = some p := by
  have hk : (ptV p).kind = 6 := rfl
  have hl : (ptV p).list = [pByt p.id, pNum p.size] := rfl
  unfold partV
  rw [if_pos hk, hl]
  have h4 : (pByt p.id).kind = 4 ∧ (pByt p.id).bytes.length = 32 ∧ (pNum p.size).kind = 3 := ⟨rfl, hp, rfl⟩
  show (if (pByt p.id).kind = 4 ∧ (pByt p.id).bytes.length = 32 ∧ (pNum p.size).kind = 3 then some (Prt.mk (pByt p.id).bytes (pNum p.size).int) else none) = some p
  rw [if_pos h4]; rfl
theorem partV_pts : ∀ {ps : List Prt}, (∀ p ∈ ps, p.id.length = 32) → (ps.map ptV).filterMap partV = ps ∧ (ps.map ptV).all (fun v => (partV v).isSome) = true
  | [], _ => ⟨rfl, rfl⟩
  | p :: ps, hp => by
    obtain ⟨h1, h2⟩ := partV_pts (ps := ps) (fun q hq => hp q (List.mem_cons_of_mem _ hq))
    have h3 := partV_pt (hp p (List.mem_cons_self ..))
    refine ⟨?_, ?_⟩
    · rw [List.map_cons, List.filterMap_cons, h3]; simp only [h1]
    · rw [List.map_cons, List.all_cons, h2, h3]; rfl
/-- What stands under a key, if it is of a kind. -/
def getR (v : PV) (key : List UInt8) (kind : Int) : PV := if (getV v key).kind = kind then getV v key else pv0
def refX (v : PV) : Itm where
  path := (fldV v [112]).text
  kind := (fldV v [107]).int
  mode := (fldV v [109]).int
  time := (fldV v [116]).int
  target := if (fldV v [107]).int = 3 then (fldV v [108]).text else []
  size := if (fldV v [107]).int = 1 then (fldV v [115]).int else 0
  parts := if (fldV v [107]).int = 1 then ((fldV v [99]).list.take 65).map refP else []
def progX (v : PV) : Itm where
  path := (getR v [112] 5).text
  kind := (getR v [107] 3).int
  mode := (getR v [109] 3).int
  time := (getR v [116] 3).int
  target := if (getR v [107] 3).int = 3 then (getR v [108] 5).text else []
  size := if (getR v [107] 3).int = 1 then (getR v [115] 3).int else 0
  parts := if (getR v [107] 3).int = 1 then (getR v [99] 6).list.filterMap partV else []
def badK (v : PV) (key : List UInt8) (kind : Int) : Bool := !decide ((getV v key).kind = kind)
def badF (v : PV) : Bool := badK v [112] 5 || (badK v [107] 3 || (badK v [109] 3 || (badK v [116] 3 || (
  if (getR v [107] 3).int = 1 then badK v [115] 3 || (badK v [99] 6 || !(getR v [99] 6).list.all (fun x => (partV x).isSome))
  else if (getR v [107] 3).int = 3 then badK v [108] 5 else false))))
def keysN (kind : Int) : Nat := if kind = 1 then 6 else if kind = 3 then 5 else 4
def itZ : Itm := ⟨[], 0, 0, 0, [], 0, []⟩
theorem refX_ids (v : PV) : ∀ p ∈ (refX v).parts, p.id.length = 32 := by
  intro p hp
  unfold refX at hp
  simp only at hp
  split at hp
  · obtain ⟨y, _, rfl⟩ := List.mem_map.1 hp; exact refP_id y
  · cases hp
theorem progX_ids (v : PV) : ∀ p ∈ (progX v).parts, p.id.length = 32 := by
  intro p hp
  unfold progX at hp
  simp only at hp
  split at hp
  · obtain ⟨y, _, h⟩ := List.mem_filterMap.1 hp; exact partV_id h
  · cases hp
theorem check_fits {x : Itm} (h : checkI x = 0) : fitsF x = true := by
  unfold checkI at h
  by_cases h0 : checkF x.path ≠ 0
  · rw [if_pos h0] at h; exact absurd h h0
  · rw [if_neg h0] at h
    by_cases h1 : modeF x = true
    · rw [if_pos h1] at h
      by_cases h2 : fitsF x = true
      · exact h2
      · rw [if_neg h2] at h; omega
    · rw [if_neg h1] at h; omega
theorem check_1 {x : Itm} (h : checkI x = 0) (hk : x.kind = 1) : x.target = [] ∧ x.parts.length ≤ 64 := by
  have := check_fits h
  unfold fitsF at this
  rw [if_pos hk] at this
  unfold wholeF at this
  simp only [Bool.and_eq_true, decide_eq_true_eq] at this
  exact ⟨this.1, this.2.1⟩
theorem check_2 {x : Itm} (h : checkI x = 0) (hk : x.kind = 2) : x.target = [] ∧ x.parts = [] ∧ x.size = 0 := by
  have := check_fits h
  unfold fitsF at this
  rw [if_neg (by omega), if_pos hk] at this
  unfold emptyF at this
  simp only [Bool.and_eq_true, decide_eq_true_eq] at this
  exact ⟨this.2, List.eq_nil_of_length_eq_zero this.1.1, this.1.2⟩
theorem check_3 {x : Itm} (h : checkI x = 0) (hk : x.kind = 3) : x.parts = [] ∧ x.size = 0 := by
  have := check_fits h
  unfold fitsF at this
  rw [if_neg (by omega), if_neg (by omega), if_pos hk] at this
  unfold emptyF at this
  simp only [Bool.and_eq_true, decide_eq_true_eq] at this
  exact ⟨List.eq_nil_of_length_eq_zero this.1.1, this.1.2⟩
theorem getR_hit {v x : PV} {key : List UInt8} {kind : Int} (h : getV v key = x) (hk : x.kind = kind) : getR v key kind = x ∧ badK v key kind = false := by
  subst h
  unfold getR badK
  rw [if_pos hk, hk]
  simp
theorem itm_ext {x y : Itm} (h1 : x.path = y.path) (h2 : x.kind = y.kind) (h3 : x.mode = y.mode) (h4 : x.time = y.time) (h5 : x.target = y.target) (h6 : x.size = y.size) (h7 : x.parts = y.parts) : x = y := by
  cases x; cases y; simp only at *; subst h1; subst h2; subst h3; subst h4; subst h5; subst h6; subst h7; rfl
/-- The item, if its value is the same. -/
theorem of_main {v : PV} {Y : Itm} (hc : checkI Y = 0) (hids : ∀ p ∈ Y.parts, p.id.length = 32) (hs : sameV (itV Y) v = true) :
    v.kind = 7 ∧ refX v = Y ∧ progX v = Y ∧ badF v = false ∧ v.keys.length = keysN Y.kind ∧ v.list.length = keysN Y.kind := by
  have hn := (sameV_norm _ _).1 hs
  have hkk := checkI_kind Y hc
  have hi7 : (itV Y).kind = 7 := by
    unfold itV
    rw [if_neg (by simpa using hc)]
    split
    · rfl
    · split <;> rfl
  have h7 : v.kind = 7 := by rw [← normV_kind, ← hn, normV_kind, hi7]
  rw [normV_7 hi7, normV_7 h7] at hn
  obtain ⟨_, _, _, _, hK, hL⟩ := PV.mk.inj hn
  clear hn hs hi7
  have HN : ∀ key, getV v key = normV (fldV v key) := getV_norm v
  unfold itV at hK hL
  rw [if_neg (by simpa using hc)] at hK hL
  rcases hkk with h1 | h2 | h3
  · rw [if_pos h1] at hK hL
    have hlen : v.list.length = 6 := by rw [← normL_len, ← hL, normL_len]; rfl
    obtain ⟨a1, a2, a3, a4, a5, a6, hl⟩ : ∃ a1 a2 a3 a4 a5 a6, v.list = [a1, a2, a3, a4, a5, a6] := by
      generalize v.list = l at hlen
      match l, hlen with
      | [a1, a2, a3, a4, a5, a6], _ => exact ⟨a1, a2, a3, a4, a5, a6, rfl⟩
    have hks : v.keys = [[99], [107], [109], [112], [115], [116]] := hK.symm
    have hL2 : normL [a1, a2, a3, a4, a5, a6] = normL [pList (Y.parts.map ptV), pNum Y.kind, pNum Y.mode, pTxt Y.path, pNum Y.size, pNum Y.time] := by rw [← hl]; exact hL.symm
    simp only [normL_cons, normL_nil, normV_lst, normL_pts, normV_num, normV_txt, List.cons.injEq, and_true] at hL2
    obtain ⟨n1, n2, n3, n4, n5, n6⟩ := hL2
    have f1 : fldV v [99] = a1 := by unfold fldV; rw [if_pos h7, hks, hl]; rfl
    have f2 : fldV v [107] = a2 := by unfold fldV; rw [if_pos h7, hks, hl]; rfl
    have f3 : fldV v [109] = a3 := by unfold fldV; rw [if_pos h7, hks, hl]; rfl
    have f4 : fldV v [112] = a4 := by unfold fldV; rw [if_pos h7, hks, hl]; rfl
    have f5 : fldV v [115] = a5 := by unfold fldV; rw [if_pos h7, hks, hl]; rfl
    have f6 : fldV v [116] = a6 := by unfold fldV; rw [if_pos h7, hks, hl]; rfl
    obtain ⟨g1, b1⟩ := getR_hit (kind := 6) (by rw [HN, f1, n1] : getV v [99] = pList (Y.parts.map ptV)) rfl
    obtain ⟨g2, b2⟩ := getR_hit (kind := 3) (by rw [HN, f2, n2] : getV v [107] = pNum Y.kind) rfl
    obtain ⟨g3, b3⟩ := getR_hit (kind := 3) (by rw [HN, f3, n3] : getV v [109] = pNum Y.mode) rfl
    obtain ⟨g4, b4⟩ := getR_hit (kind := 5) (by rw [HN, f4, n4] : getV v [112] = pTxt Y.path) rfl
    obtain ⟨g5, b5⟩ := getR_hit (kind := 3) (by rw [HN, f5, n5] : getV v [115] = pNum Y.size) rfl
    obtain ⟨g6, b6⟩ := getR_hit (kind := 3) (by rw [HN, f6, n6] : getV v [116] = pNum Y.time) rfl
    obtain ⟨ht, hp⟩ := check_1 hc h1
    obtain ⟨p1, p2⟩ := partV_pts hids
    have hr := refP_pts (is_lst n1).2 hids
    have hlp : a1.list.length = Y.parts.length := by rw [← hr]; simp
    have e2 := (is_num n2).2
    refine ⟨h7, ?_, ?_, ?_, ?_, ?_⟩
    · refine itm_ext ?_ ?_ ?_ ?_ ?_ ?_ ?_ <;> unfold refX <;> simp only [f1, f2, f3, f4, f5, f6, e2]
      · exact (is_txt n4).2
      · exact (is_num n3).2
      · exact (is_num n6).2
      · rw [if_neg (by omega), ht]
      · rw [if_pos h1]; exact (is_num n5).2
      · rw [if_pos h1, List.take_of_length_le (by omega), hr]
    · refine itm_ext ?_ ?_ ?_ ?_ ?_ ?_ ?_ <;> unfold progX <;> simp only [g1, g2, g3, g4, g5, g6, pNum, pTxt, pList, PV.int, PV.text, PV.list]
      · rw [if_neg (by omega), ht]
      · rw [if_pos h1]
      · rw [if_pos h1, p1]
    · unfold badF
      rw [b1, b2, b3, b4, b5, b6, g2, g1]
      simp only [pNum, pList, PV.int, PV.list, if_pos h1, p2]; rfl
    · rw [hks]; unfold keysN; rw [if_pos h1]; rfl
    · rw [hl]; unfold keysN; rw [if_pos h1]; rfl
  · rw [if_neg (by omega), if_pos h2] at hK hL
    have hlen : v.list.length = 4 := by rw [← normL_len, ← hL, normL_len]; rfl
    obtain ⟨a2, a3, a4, a6, hl⟩ : ∃ a2 a3 a4 a6, v.list = [a2, a3, a4, a6] := by
      generalize v.list = l at hlen
      match l, hlen with
      | [a2, a3, a4, a6], _ => exact ⟨a2, a3, a4, a6, rfl⟩
    have hks : v.keys = [[107], [109], [112], [116]] := hK.symm
    have hL2 : normL [a2, a3, a4, a6] = normL [pNum Y.kind, pNum Y.mode, pTxt Y.path, pNum Y.time] := by rw [← hl]; exact hL.symm
    simp only [normL_cons, normL_nil, normV_num, normV_txt, List.cons.injEq, and_true] at hL2
    obtain ⟨n2, n3, n4, n6⟩ := hL2
    have f2 : fldV v [107] = a2 := by unfold fldV; rw [if_pos h7, hks, hl]; rfl
    have f3 : fldV v [109] = a3 := by unfold fldV; rw [if_pos h7, hks, hl]; rfl
    have f4 : fldV v [112] = a4 := by unfold fldV; rw [if_pos h7, hks, hl]; rfl
    have f6 : fldV v [116] = a6 := by unfold fldV; rw [if_pos h7, hks, hl]; rfl
    obtain ⟨g2, b2⟩ := getR_hit (kind := 3) (by rw [HN, f2, n2] : getV v [107] = pNum Y.kind) rfl
    obtain ⟨g3, b3⟩ := getR_hit (kind := 3) (by rw [HN, f3, n3] : getV v [109] = pNum Y.mode) rfl
    obtain ⟨g4, b4⟩ := getR_hit (kind := 5) (by rw [HN, f4, n4] : getV v [112] = pTxt Y.path) rfl
    obtain ⟨g6, b6⟩ := getR_hit (kind := 3) (by rw [HN, f6, n6] : getV v [116] = pNum Y.time) rfl
    obtain ⟨ht, hp, hz⟩ := check_2 hc h2
    have e2 := (is_num n2).2
    refine ⟨h7, ?_, ?_, ?_, ?_, ?_⟩
    · refine itm_ext ?_ ?_ ?_ ?_ ?_ ?_ ?_ <;> unfold refX <;> simp only [f2, f3, f4, f6, e2]
      · exact (is_txt n4).2
      · exact (is_num n3).2
      · exact (is_num n6).2
      · rw [if_neg (by omega), ht]
      · rw [if_neg (by omega), hz]
      · rw [if_neg (by omega), hp]
    · refine itm_ext ?_ ?_ ?_ ?_ ?_ ?_ ?_ <;> unfold progX <;> simp only [g2, g3, g4, g6, pNum, pTxt, PV.int, PV.text]
      · rw [if_neg (by omega), ht]
      · rw [if_neg (by omega), hz]
      · rw [if_neg (by omega), hp]
    · unfold badF
      have k2 : (pNum Y.kind).int = Y.kind := rfl
      rw [b2, b3, b4, b6, g2, k2, if_neg (show ¬ Y.kind = 1 by omega), if_neg (show ¬ Y.kind = 3 by omega)]; rfl
    · rw [hks]; unfold keysN; rw [if_neg (by omega), if_neg (by omega)]; rfl
    · rw [hl]; unfold keysN; rw [if_neg (by omega), if_neg (by omega)]; rfl
  · rw [if_neg (by omega), if_neg (by omega)] at hK hL
    have hlen : v.list.length = 5 := by rw [← normL_len, ← hL, normL_len]; rfl
    obtain ⟨a2, a5, a3, a4, a6, hl⟩ : ∃ a2 a5 a3 a4 a6, v.list = [a2, a5, a3, a4, a6] := by
      generalize v.list = l at hlen
      match l, hlen with
      | [a2, a5, a3, a4, a6], _ => exact ⟨a2, a5, a3, a4, a6, rfl⟩
    have hks : v.keys = [[107], [108], [109], [112], [116]] := hK.symm
    have hL2 : normL [a2, a5, a3, a4, a6] = normL [pNum Y.kind, pTxt Y.target, pNum Y.mode, pTxt Y.path, pNum Y.time] := by rw [← hl]; exact hL.symm
    simp only [normL_cons, normL_nil, normV_num, normV_txt, List.cons.injEq, and_true] at hL2
    obtain ⟨n2, n5, n3, n4, n6⟩ := hL2
    have f2 : fldV v [107] = a2 := by unfold fldV; rw [if_pos h7, hks, hl]; rfl
    have f3 : fldV v [109] = a3 := by unfold fldV; rw [if_pos h7, hks, hl]; rfl
    have f4 : fldV v [112] = a4 := by unfold fldV; rw [if_pos h7, hks, hl]; rfl
    have f5 : fldV v [108] = a5 := by unfold fldV; rw [if_pos h7, hks, hl]; rfl
    have f6 : fldV v [116] = a6 := by unfold fldV; rw [if_pos h7, hks, hl]; rfl
    obtain ⟨g2, b2⟩ := getR_hit (kind := 3) (by rw [HN, f2, n2] : getV v [107] = pNum Y.kind) rfl
    obtain ⟨g3, b3⟩ := getR_hit (kind := 3) (by rw [HN, f3, n3] : getV v [109] = pNum Y.mode) rfl
    obtain ⟨g4, b4⟩ := getR_hit (kind := 5) (by rw [HN, f4, n4] : getV v [112] = pTxt Y.path) rfl
    obtain ⟨g5, b5⟩ := getR_hit (kind := 5) (by rw [HN, f5, n5] : getV v [108] = pTxt Y.target) rfl
    obtain ⟨g6, b6⟩ := getR_hit (kind := 3) (by rw [HN, f6, n6] : getV v [116] = pNum Y.time) rfl
    obtain ⟨hp, hz⟩ := check_3 hc h3
    have e2 := (is_num n2).2
    refine ⟨h7, ?_, ?_, ?_, ?_, ?_⟩
    · refine itm_ext ?_ ?_ ?_ ?_ ?_ ?_ ?_ <;> unfold refX <;> simp only [f2, f3, f4, f5, f6, e2]
      · exact (is_txt n4).2
      · exact (is_num n3).2
      · exact (is_num n6).2
      · rw [if_pos h3]; exact (is_txt n5).2
      · rw [if_neg (by omega), hz]
      · rw [if_neg (by omega), hp]
    · refine itm_ext ?_ ?_ ?_ ?_ ?_ ?_ ?_ <;> unfold progX <;> simp only [g2, g3, g4, g5, g6, pNum, pTxt, PV.int, PV.text]
      · rw [if_pos h3]
      · rw [if_neg (by omega), hz]
      · rw [if_neg (by omega), hp]
    · unfold badF
      have k2 : (pNum Y.kind).int = Y.kind := rfl
      rw [b2, b3, b4, b5, b6, g2, k2, if_neg (show ¬ Y.kind = 1 by omega), if_pos h3]; rfl
    · rw [hks]; unfold keysN; rw [if_neg (by omega), if_pos h3]; rfl
    · rw [hl]; unfold keysN; rw [if_neg (by omega), if_pos h3]; rfl
/-- Which item a value is of. -/
def ofF (v : PV) : Itm × Int := if v.kind = 7 ∧ checkI (refX v) = 0 ∧ sameV (itV (refX v)) v = true then (refX v, 0) else (itZ, 4)
theorem of_prog (v : PV) : (if badF v = false ∧ v.keys.length = keysN (progX v).kind ∧ v.list.length = keysN (progX v).kind ∧ checkI (progX v) = 0 ∧ sameV (itV (progX v)) v = true then (progX v, (0 : Int)) else (itZ, 4)) = ofF v := by
  unfold ofF
  by_cases h : v.kind = 7 ∧ checkI (refX v) = 0 ∧ sameV (itV (refX v)) v = true
  · obtain ⟨_, h1, h2⟩ := h
    obtain ⟨k1, k2, k3, k4, k5, k6⟩ := of_main h1 (refX_ids v) h2
    have hA : badF v = false ∧ v.keys.length = keysN (progX v).kind ∧ v.list.length = keysN (progX v).kind ∧ checkI (progX v) = 0 ∧ sameV (itV (progX v)) v = true := by rw [k3]; exact ⟨k4, k5, k6, h1, h2⟩
    rw [if_pos hA, if_pos ⟨k1, h1, h2⟩, k3]
  · rw [if_neg h, if_neg]
    rintro ⟨_, _, _, h1, h2⟩
    obtain ⟨k1, k2, _⟩ := of_main h1 (progX_ids v) h2
    exact h ⟨k1, by rw [k2]; exact h1, by rw [k2]; exact h2⟩
end Go.Proofs.YtpchogicdnfggaaDoor
set_option maxRecDepth 20000
namespace Go.Proofs.YtpchogicdnfggaaDoor
open Go.RowKit Go.Hd
attribute [local go_sem ↓] h_ldV h_stV h_alV
attribute [local go_sem] r_ldV r_stV r_alV
def GetQ (w : World) (v : PV) (e : Ending) (w' : World) : Prop := ∃ ds f, e = .returned (.tuple #[.agg (List.toArray ds), .bool f]) ∧ VAtP (fun b => w.heap.size ≤ b) w' ds v ∧ Below w.heap.size w w' ∧ (f = false → v = pv0)
set_option maxHeartbeats 1000000 in
theorem vget2_any {w0 : World} {cs : List Value} {v : PV} (key : List UInt8) (h : VAt w0 cs v) (hsm : Sm v) (w : World) (hbw : Below w0.heap.size w0 w) : Calls Tryd.prog 74 #[.agg cs.toArray, .string (str key)] w (GetQ w (getV v key)) := by
  cases h with
  | @mk k n b t ks l ab ak al cb ck cl css hk hn hb hbc ht hks hkc hkt hl hlc hcs h6 sub =>
  have hsz := hbw.size
  obtain ⟨s1, s2, s3, s4⟩ := hsm.parts
  obtain ⟨box, hbox⟩ : ∃ box : List Value, box = [.int .i64 k, .int .i64 n, .slice ab b.length cb, strV t, .slice ak ks.length ck, .slice al l.length cl] := ⟨_, rfl⟩
  have hall : Hid (∀ W, W = (w.alloc (.cells (List.toArray (α := Value) box) 30)).alloc (.cells zV 30) → Blk W w.heap.size 30 box ∧ Blk W (w.heap.size + 1) 30 zV.toList ∧ Below w.heap.size w W ∧ W.heap.size = w.heap.size + 2) := by
    rintro W rfl
    refine ⟨?_, ?_, ((Below.refl _ _).alloc (Nat.le_refl _) _).alloc (by simp) _, by simp⟩
    · simpa using (Blk.new w 30 box.toArray).alloc (.cells zV 30)
    · have := Blk.new (w.alloc (.cells (List.toArray (α := Value) box) 30)) 30 zV
      simpa using this
  have zs := zV_size
  have hO6 := oneC6
  rw [← hbox]
  have HB := Lib.hid hbox
  clear hbox
  go_enter Tryd.func74, Tryd.ntmps74
  go_upto_region 1 with (fail)
  generalize hW : (w.alloc (.cells (List.toArray (α := Value) box) 30)).alloc (.cells zV 30) = W at *
  obtain ⟨A0, R0, hbW, S0⟩ := hall.out W rfl
  clear hall hW
  have a0 : W.cell? ⟨w.heap.size, 0, none⟩ = some (.int .i64 k) := A0.cell (by rw [HB.out]; rfl)
  have a4 : W.cell? ⟨w.heap.size, 4, none⟩ = some (.slice ak ks.length ck) := A0.cell (by rw [HB.out]; rfl)
  have a5 : W.cell? ⟨w.heap.size, 5, none⟩ = some (.slice al l.length cl) := A0.cell (by rw [HB.out]; rfl)
  obtain ⟨Wz, z1, z2, z3, z4⟩ := res_zero R0 (by rfl) (by omega) hbW
  by_cases h7 : k = 7
  · subst h7
    have HG : Hid (getV (.mk 7 n b t ks l) key = ((findK ks l key).map normV).getD pv0) := by show _ = _; rw [getV_mk, if_pos rfl]
    have j65 : (ks.length : Int) ≤ 65536 := by omega
    go_wp2
    go_loopw [15] (fun i wr => ∃ j : Nat, j ≤ ks.length ∧ i = .int .i64 j ∧ wr = W ∧ Hid (findK ks l key = findK (ks.drop j) (l.drop j) key)) (fun i _ => ks.length - (intOf i).toNat)
    case atStart => exact ⟨0, Nat.zero_le _, rfl, rfl, Lib.hid (by rw [List.drop_zero, List.drop_zero])⟩
    case round =>
      obtain ⟨j, hj, rfl, rfl, hF⟩ := hrel
      have j0 : (0 : Int) ≤ (j : Int) := by omega
      have jb : IntKind.i64.wrap ((j : Int) + 1) = (j : Int) + 1 := IntWalk.i64_in _ (by omega)
      by_cases hlt : j < ks.length
      · have j1 : (j : Int) < (ks.length : Int) := by omega
        have hkW := hks.below (hbw.trans (hbW.mono hsz))
        have s5 := hkW.isSome (i := j) (by simpa using hlt)
        have c5 : wr.cell? ((hd ak).add j) = some (.string (str ks[j])) := hkW.cell (i := j) (u := strV ks[j]) (by simp [hlt])
        have hsb := str_beq ks[j] key
        by_cases hhit : ks[j] = key ∧ j < l.length
        · obtain ⟨hk1, hk2⟩ := hhit
          have hk3 : ((str ks[j]).toList == (str key).toList) = true := by rw [hsb]; simpa using hk1
          have j2 : (j : Int) < (l.length : Int) := by omega
          have hr2 := hl.below (hbw.trans (hbW.mono hsz))
          have s6 := hr2.elemSome (s := 6) h6 (by decide) (i := j) (by omega)
          have hxc := sub j css[j] l[j] (by simp [hcs, hk2]) (by simp [hk2])
          have q1 := ldOp_at (P := Tryd.prog) (ty := 30) (hr2.elem (s := 6) h6 (i := j) (c := css[j]) (by simp [hcs, hk2])) Tryd.underlying30 rfl (by rw [hxc.len]; exact sizeV)
          have HE : Hid (getV (.mk 7 n b t ks l) key = normV l[j]) := by show _ = _; rw [HG.out, hF.out, findK_hit hlt hk2 hk1]; rfl
          have hcl := vclone_any hxc wr (hbw.trans (hbW.mono hsz)) (s4 _ (List.getElem_mem hk2))
          clear HG hF hsb hr2
          generalize ks[j] = kj at *
          generalize l[j] = x at *
          generalize css[j] = cx at *
          go_wp2_with fail
          refine hcl.mono ?_
          rintro e w2 ⟨ds, rfl, hds, hb2⟩
          obtain ⟨W2, y1, y2, y3, y4⟩ := res_any (w := w) (R0.below hb2) (by rfl) (by omega) (hds.mono (fun b hb _ => by omega)) (hbW.trans (hb2.mono hbW.size))
          have hd6 : (List.toArray ds).size = 6 := by simpa using hds.len
          go_wp2
          refine bodyPost_ret (results_cell_tmp (fn := Tryd.f74) (p := 4) (t := 5) (by rfl) _ _ (w.heap.size + 1) 30 _ (0, 0) _ (by rfl) y2 Tryd.underlying30 rfl (by rw [hd6]; exact sizeV)) rfl ⟨_, _, rfl, by rw [HE.out]; exact y3, y4, (fun h => by cases h)⟩
        · have HF2 : Hid (findK ks l key = findK (ks.drop (j + 1)) (l.drop (j + 1)) key) := hF.out.trans (findK_step hlt hhit)
          by_cases hk1 : ks[j] = key
          · have hk3 : ((str ks[j]).toList == (str key).toList) = true := by rw [hsb]; simpa using hk1
            have j2 : ¬ (j : Int) < (l.length : Int) := fun h => hhit ⟨hk1, by omega⟩
            clear hhit hsb
            generalize ks[j] = kj at *
            go_wp2
            first
              | exact ⟨⟨j + 1, by omega, (by first | rfl | go_num | (congr 1; omega)), (by first | rfl | trivial), HF2⟩, by simp [intOf] <;> omega⟩
              | (refine ⟨?_, by simp [intOf] <;> omega⟩; (repeat apply Exists.intro); exact ⟨⟨j + 1, by omega, (by first | rfl | go_num | (congr 1; omega)), (by first | rfl | trivial), HF2⟩, rfl⟩)
          · have hk3 : ((str ks[j]).toList == (str key).toList) = false := by rw [hsb]; simpa using hk1
            clear hhit hsb
            generalize ks[j] = kj at *
            go_wp2
            first
              | exact ⟨⟨j + 1, by omega, (by first | rfl | go_num | (congr 1; omega)), (by first | rfl | trivial), HF2⟩, by simp [intOf] <;> omega⟩
              | (refine ⟨?_, by simp [intOf] <;> omega⟩; (repeat apply Exists.intro); exact ⟨⟨j + 1, by omega, (by first | rfl | go_num | (congr 1; omega)), (by first | rfl | trivial), HF2⟩, rfl⟩)
      · obtain rfl : j = ks.length := by omega
        have j1 : ¬ (ks.length : Int) < (ks.length : Int) := by omega
        have HE : Hid (getV (.mk 7 n b t ks l) key = pv0) := by show _ = _; rw [HG.out, hF.out, findK_end]; rfl
        go_wp2
        refine bodyPost_ret (results_cell_tmp (fn := Tryd.f74) (p := 4) (t := 5) (by rfl) _ _ (w.heap.size + 1) 30 _ (0, 0) _ (by rfl) z2 Tryd.underlying30 rfl sizeV) rfl ⟨_, _, rfl, by rw [HE.out]; exact z3, z4, (fun _ => HE.out)⟩
  · have t7 : (k != 7) = true := by simpa using h7
    have HE : Hid (getV (.mk k n b t ks l) key = pv0) := by show _ = _; rw [getV_mk, if_neg h7]
    go_wp2
    refine bodyPost_ret (results_cell_tmp (fn := Tryd.f74) (p := 4) (t := 5) (by rfl) _ _ (w.heap.size + 1) 30 _ (0, 0) _ (by rfl) z2 Tryd.underlying30 rfl sizeV) rfl ⟨_, _, rfl, by rw [HE.out]; exact z3, z4, (fun _ => HE.out)⟩

end Go.Proofs.YtpchogicdnfggaaDoor
set_option maxRecDepth 20000
namespace Go.Proofs.YtpchogicdnfggaaDoor
open Go.RowKit Go.Hd
theorem fieldV3 {a0 a1 a2 a4 a5 : Value} {s : ByteArray} {w : World} : (Instr.field 30 (.agg #[a0, a1, a2, .string s, a4, a5]) 3).run Tryd.prog w = .ok (.string s) w := by
  unfold Instr.field
  have hu := Tryd.underlying30
  simp [Sem.run_bind, Go.underlying, Go.Sem.run_pure, hu, asAgg, part]
theorem fieldV1 {a0 a2 a3 a4 a5 : Value} {n : Int} {w : World} : (Instr.field 30 (.agg #[a0, .int .i64 n, a2, a3, a4, a5]) 1).run Tryd.prog w = .ok (.int .i64 n) w := by
  unfold Instr.field
  have hu := Tryd.underlying30
  simp [Sem.run_bind, Go.underlying, Go.Sem.run_pure, hu, asAgg, part]
theorem fieldV5 {a0 a1 a2 a3 a4 : Value} {a : Option Addr} {n c : Nat} {w : World} : (Instr.field 30 (.agg #[a0, a1, a2, a3, a4, .slice a n c]) 5).run Tryd.prog w = .ok (.slice a n c) w := by
  unfold Instr.field
  have hu := Tryd.underlying30
  simp [Sem.run_bind, Go.underlying, Go.Sem.run_pure, hu, asAgg, part]
theorem vat_cells {w : World} {cs : List Value} {v : PV} (h : VAt w cs v) : ∃ ab cb ak ck al cl, cs = [.int .i64 v.kind, .int .i64 v.int, .slice ab v.bytes.length cb, strV v.text, .slice ak v.keys.length ck, .slice al v.list.length cl] := by
  cases h
  exact ⟨_, _, _, _, _, _, rfl⟩
theorem fldTxt {w : World} {ds : List Value} {x : PV} (h : VAt w ds x) (w' : World) : (Instr.field 30 (.agg (List.toArray ds)) 3).run Tryd.prog w' = .ok (.string (str x.text)) w' := by
  obtain ⟨_, _, _, _, _, _, rfl⟩ := vat_cells h
  exact fieldV3
theorem fldInt {w : World} {ds : List Value} {x : PV} (h : VAt w ds x) (w' : World) : (Instr.field 30 (.agg (List.toArray ds)) 1).run Tryd.prog w' = .ok (.int .i64 x.int) w' := by
  obtain ⟨_, _, _, _, _, _, rfl⟩ := vat_cells h
  exact fieldV1
/-- What the reader's get answers, and what it leaves. -/
def GotP (w : World) (q : Nat) (cs : List Value) (b : Bool) (u : PV) (e : Ending) (w' : World) : Prop :=
  ∃ ds, e = .returned (.agg (List.toArray ds)) ∧ VAtP (fun z => w.heap.size ≤ z) w' ds u ∧ Blk w' q 86 (cs ++ [.bool b]) ∧ w.grownBy w' (some q)
theorem got_fin {w W : World} {r q : Nat} {old cs ds : List Value} {b : Bool} {u : PV} (hR : Blk W r 30 old) (ho : old.length = 6) (hr : w.heap.size ≤ r) (hv : VAtP (fun z => w.heap.size ≤ z ∧ z ≠ r) W ds u) (hq : q < w.heap.size) (hB : Blk W q 86 (cs ++ [.bool b])) (hg : w.grownBy W (some q)) :
    ∃ W2, (stoOp 30 (.pointer (some ⟨r, 0, none⟩)) (.agg ds.toArray)).run Tryd.prog W = .ok () W2 ∧ Blk W2 r 30 ds ∧ GotP w q cs b u (.returned (.agg (List.toArray ds))) W2 := by
  have h6 := hv.len
  have hgr := setRow_gr W r ds.toArray
  refine ⟨W.setRow r ds.toArray, st_row hR ho ds.toArray (by simpa using h6) (by exact all_oneCell_toArray hv.one), setRow_blk hR ds, ds, rfl, ?_, hB.grown hgr (by omega), ?_⟩
  · exact (hv.same (w' := W.setRow r ds.toArray) (fun b hb hlt => hgr.block b hlt (by simp; omega))).mono (fun b hb _ => hb.1)
  · exact ⟨hgr.os.trans hg.os, hgr.tape.trans hg.tape, hgr.output.trans hg.output, Nat.le_trans hg.size hgr.size, fun k hk hne => (hgr.block k (Nat.lt_of_lt_of_le hk hg.size) (by simp; omega)).trans (hg.block k hk hne)⟩
attribute [local go_sem ↓] h_ldV h_stV h_alV
attribute [local go_sem] r_ldV r_stV r_alV
set_option maxHeartbeats 1000000 in
theorem iget_any {w0 w : World} {cs : List Value} {v : PV} {q : Nat} {b : Bool} (key : List UInt8) {kind : Int} (hk0 : kind ≠ 0) (h : VAt w0 cs v) (hsm : Sm v) (hbw : Below w0.heap.size w0 w) (hB : Blk w q 86 (cs ++ [.bool b])) :
    Calls Tryd.prog 48 #[.pointer (some ⟨q, 0, none⟩), .string (str key), .int .i64 kind] w (GotP w q cs (b || badK v key kind) (getR v key kind)) := by
  have zs := zV_size
  have hO6 := oneC6
  have hcl := h.len
  have hqw := hB.lt
  have hal : Hid (∀ W, W = w.alloc (.cells zV 30) → Blk W w.heap.size 30 zV.toList ∧ Below w.heap.size w W ∧ W.heap.size = w.heap.size + 1) := by
    rintro W rfl
    exact ⟨Blk.new _ _ _, (Below.refl _ _).alloc (Nat.le_refl _) _, by simp⟩
  have hRK : Hid (getR v key kind = if (getV v key).kind = kind then getV v key else pv0) := rfl
  have hBK : Hid (badK v key kind = !decide ((getV v key).kind = kind)) := rfl
  go_enter Tryd.func48, Tryd.ntmps48
  go_upto_region 1 with (fail)
  generalize hW : w.alloc (.cells zV 30) = W at *
  obtain ⟨R0, hbW, S0⟩ := hal.out W rfl
  clear hal hW
  have hB1 := hB.below hbW
  have q1 := ldOp_blk (P := Tryd.prog) (ty := 30) (o := 0) (n := 6) hB1 (by simp; omega) Tryd.underlying30 rfl sizeV
  have hdr : ((cs ++ [Value.bool b]).drop 0).take 6 = cs := by rw [List.drop_zero]; exact List.take_left' hcl
  rw [hdr] at q1
  have hget := vget2_any key h hsm W (hbw.trans (hbW.mono hbw.size))
  generalize getR v key kind = U at *
  generalize badK v key kind = bk at *
  generalize getV v key = x at *
  clear h hsm
  go_wp2_with fail
  refine hget.mono ?_
  rintro e w2 ⟨ds, f, rfl, hds, hb2, hf⟩
  have hb12 := hbW.trans (hb2.mono (by omega))
  have hs2 := hb2.size
  have x6 : (List.toArray ds).size = 6 := by simpa using hds.len
  have xo : OneC (List.toArray ds) := all_oneCell_toArray hds.one
  go_upto_region 2 with (fail)
  have hbA : Below w2.heap.size w2 (w2.alloc (.cells (List.toArray ds) 30)) := (Below.refl _ _).alloc (Nat.le_refl _) _
  have hN : Blk (w2.alloc (.cells (List.toArray ds) 30)) w2.heap.size 30 ds := Blk.new _ _ _
  have hb13 := hb12.trans (hbA.mono (by omega))
  have hB3 := (hB1.below hb2).below hbA
  have hR3 := (R0.below hb2).below hbA
  have hds3 := hds.grow hbA
  generalize w2.alloc (.cells (List.toArray ds) 30) = W3 at *
  generalize w2.heap.size = g at *
  obtain ⟨u1, u2, u3, u4, u5, hdk⟩ := vat_kind hds3.at
  have c0 : W3.cell? ⟨g, 0, none⟩ = some (.int .i64 x.kind) := hN.cell (by rw [hdk]; rfl)
  have q3 := ldOp_all (P := Tryd.prog) (ty := 30) hN Tryd.underlying30 rfl (by rw [hds3.len]; exact sizeV)
  have hg13 : w.grownBy W3 (some q) := ⟨hb13.os, hb13.tape, hb13.output, hb13.size, fun k hk _ => hb13.block k hk⟩
  have hds3 : VAtP (fun z => w.heap.size ≤ z ∧ z ≠ w.heap.size) W3 ds x := hds3.mono (fun z hz _ => by omega)
  clear hds hbA hb12 hb2 hB1 R0 q1 hget hbW hdk u1 u2 u3 u4 u5 hb13
  by_cases hk : x.kind = kind
  · have f1 : f = true := by
      cases f with
      | true => rfl
      | false => exact absurd (by rw [← hk, hf rfl]; rfl) hk0
    subst f1
    have e1 : Hid (U = x) := by show _ = _; rw [hRK.out, if_pos hk]
    have e2 : Hid (bk = false) := by show _ = _; rw [hBK.out, hk]; simp
    obtain ⟨W4, y1, y2, y3⟩ := got_fin (w := w) hR3 (by rfl) (Nat.le_refl _) hds3 hqw hB3 hg13
    have tk : (x.kind != kind) = false := by simp [hk]
    clear hf hRK hBK hk
    go_wp2
    refine bodyPost_ret (results_cell_row (fn := Tryd.f48) (by rfl) _ _ w.heap.size 30 _ (0, 0) _ (by rfl) y2 Tryd.underlying30 rfl (by rw [x6]; exact sizeV)) rfl ?_
    rw [e1.out, e2.out, Bool.or_false]
    exact y3
  · have e1 : Hid (U = pv0) := by show _ = _; rw [hRK.out, if_neg hk]
    have e2 : Hid (bk = true) := by show _ = _; rw [hBK.out]; simp [hk]
    have cb : W3.cell? ⟨q, 6, none⟩ = some (.bool b) := hB3.cell (by rw [← hcl]; simp)
    have fb := hB3.free 6
    have hs := hB3.set 6 (.bool true)
    have hsg : W3.grownBy (W3.setCell ⟨q, 6, none⟩ (.bool true)) (some q) := ⟨rfl, rfl, rfl, by simp, fun k _ hk => Below.heap_setCell W3 _ _ k (fun e => hk (by rw [e]))⟩
    have hst : (cs ++ [Value.bool b]).set 6 (Value.bool true) = cs ++ [Value.bool true] := by rw [← hcl]; simp
    rw [hst] at hs
    obtain ⟨W4, y1, y2, y3⟩ := got_fin (w := w) (ds := [.int .i64 0, .int .i64 0, .slice none 0 0, .string { data := #[] }, .slice none 0 0, .slice none 0 0]) (hR3.grown hsg (by omega)) (by rfl) (Nat.le_refl _) (VAtP.plain (k := 0) (n := 0) (t := []) _ (by unfold in64; omega) (by unfold in64; omega) (Nat.zero_le _)) hqw hs (grownBy_trans hg13 hsg)
    have tk : (x.kind != kind) = true := by simp [hk]
    clear hf hRK hBK hk
    cases f
    · go_wp2
      refine bodyPost_ret (results_cell_row (fn := Tryd.f48) (by rfl) _ _ w.heap.size 30 _ (0, 0) _ (by rfl) y2 Tryd.underlying30 rfl sizeV) rfl ?_
      rw [e1.out, e2.out, Bool.or_true]
      exact y3
    · go_wp2
      refine bodyPost_ret (results_cell_row (fn := Tryd.f48) (by rfl) _ _ w.heap.size 30 _ (0, 0) _ (by rfl) y2 Tryd.underlying30 rfl sizeV) rfl ?_
      rw [e1.out, e2.out, Bool.or_true]
      exact y3
/-- A number under a key. -/
def INumP (w : World) (q : Nat) (cs : List Value) (b : Bool) (n : Int) (e : Ending) (w' : World) : Prop :=
  e = .returned (.int .i64 n) ∧ Blk w' q 86 (cs ++ [.bool b]) ∧ w.grownBy w' (some q)
theorem inum_any {w0 w : World} {cs : List Value} {v : PV} {q : Nat} {b : Bool} (key : List UInt8) (h : VAt w0 cs v) (hsm : Sm v) (hbw : Below w0.heap.size w0 w) (hB : Blk w q 86 (cs ++ [.bool b])) :
    Calls Tryd.prog 49 #[.pointer (some ⟨q, 0, none⟩), .string (str key)] w (INumP w q cs (b || badK v key 3) (getR v key 3).int) := by
  have hg := iget_any key (kind := 3) (by decide) h hsm hbw hB
  generalize getR v key 3 = U at *
  generalize badK v key 3 = bk at *
  go_enter Tryd.func49, Tryd.ntmps49
  go_wp2_with fail
  refine hg.mono ?_
  rintro e w2 ⟨ds, rfl, hds, hB2, hg2⟩
  have hf := fldInt hds.at
  go_wp2
  go_ret
  exact ⟨rfl, hB2, hg2⟩
end Go.Proofs.YtpchogicdnfggaaDoor
set_option maxRecDepth 20000
namespace Go.Proofs.YtpchogicdnfggaaDoor
open Go.RowKit Go.Hd
theorem VAt.cellsL {w : World} {cs : List Value} {v : PV} (h : VAt w cs v) : ∃ (u2 u4 : Value) (ab : Option Addr) (cb : Nat) (al : Option Addr) (cl : Nat) (css : List (List Value)), cs = [.int .i64 v.kind, .int .i64 v.int, .slice ab v.bytes.length cb, u2, u4, .slice al v.list.length cl] ∧ css.length = v.list.length ∧ Row w al css.flatten ∧ (∀ c ∈ css, c.length = 6) ∧ (∀ (i : Nat) (c : List Value) (x : PV), css[i]? = some c → v.list[i]? = some x → VAt w c x) ∧ Row w ab (v.bytes.map b8) ∧ in64 v.int ∧ v.text.length ≤ maxLen := by
  cases h with
  | @mk k n b t ks l ab ak al cb ck cl css hk hn hb hbc ht hks hkc hkt hl hlc hcs h6 sub => exact ⟨_, _, ab, cb, al, cl, css, rfl, hcs, hl, h6, sub, hb, hn, ht⟩
theorem bd_prt {id : List UInt8} {n : Int} {w : World} (h : id.length = 32) : (bdOp 65 #[(0, .agg (List.toArray (id.map b8))), (1, .int .i64 n)]).run Tryd.prog w = .ok (.agg (List.toArray (prtC ⟨id, n⟩))) w := by
  have := bdOp_two (P := Tryd.prog) (u := .agg (List.toArray (id.map b8))) (v := .int .i64 n) (w := w) Tryd.underlying65 zeroPA (m := 32) (n := 1) (by kernel_rfl) (by exact zPA_size) (by simp [Value.cells, h]) rfl
  simpa [prtC, Value.cells] using this
theorem bd_prt0 {w : World} : (bdOp 65 #[]).run Tryd.prog w = .ok (.agg zPA) w := by
  rw [bdOp_none (P := Tryd.prog) (w := w) Tryd.underlying65 zeroPA (places := [(0, 32), (32, 1)]) (by kernel_rfl)]
/-- What part answers. -/
def PartQ (w : World) (o : Option Prt) (e : Ending) (w' : World) : Prop :=
  Below w.heap.size w w' ∧ ∃ ps : List Value, e = .returned (.tuple #[.agg (List.toArray ps), .bool o.isSome]) ∧ ps.length = 33 ∧ OneC (List.toArray ps) ∧ ∀ p, o = some p → ps = prtC p ∧ PrtOk p
theorem res_prt {w W : World} {r : Nat} {old cs : List Value} (hR : Blk W r 65 old) (ho : old.length = 33) (hc : cs.length = 33) (h1 : ∀ u ∈ cs, u.oneCell' = true) (hr : w.heap.size ≤ r) (hb : Below w.heap.size w W) :
    ∃ W2, (stoOp 65 (.pointer (some ⟨r, 0, none⟩)) (.agg (List.toArray cs))).run Tryd.prog W = .ok () W2 ∧ Blk W2 r 65 cs ∧ Below w.heap.size w W2 := by
  obtain ⟨w4, qs, hB4, hg4⟩ := stOp_blk (P := Tryd.prog) (ty := 65) (o := 0) (cs := cs) hR (by rw [hc, ho]; decide) (by rw [hc]; exact sizePA) h1
  refine ⟨w4, qs, ?_, Below.grown hb hg4 hb.size (fun k hk => by cases hk; exact hr)⟩
  have e : old.take 0 ++ cs ++ old.drop (0 + cs.length) = cs := by simp [ho, hc]
  rw [e] at hB4; exact hB4
attribute [local go_sem ↓] h_ldV h_stV h_alV h_ldID h_ldPA h_stPA h_alPA h_bdPA h_ap
attribute [local go_sem] r_ldV r_stV r_alV r_ldPA r_stPA r_alPA r_ap
theorem zPAl : zPA.toList.length = 33 := by rw [Array.length_toList]; exact zPA_size
set_option maxHeartbeats 4000000 in
theorem ipart_any {w0 : World} {cs : List Value} {v : PV} (h : VAt w0 cs v) (w : World) (hbw : Below w0.heap.size w0 w) : Calls Tryd.prog 50 #[.agg (List.toArray cs)] w (PartQ w (partV v)) := by
  have hcl := h.len
  have hone : OneC (List.toArray cs) := all_oneCell_toArray h.one
  have c6 : (List.toArray cs).size = 6 := by simpa using hcl
  obtain ⟨u2, u4, ab, cb, al, cl, css, hcs, hcss, hrow, h6, sub, _, _⟩ := VAt.cellsL h
  have HCS := Lib.hid hcs
  clear hcs
  have hPV : Hid (partV v = if v.kind = 6 then (match v.list with
    | [a, b] => if a.kind = 4 ∧ a.bytes.length = 32 ∧ b.kind = 3 then some ⟨a.bytes, b.int⟩ else none
    | _ => none) else none) := rfl
  have zp := zPA_size
  have zo := zPA_one
  have hz0 := fun w' => bd_prt0 (w := w')
  have hb0 : Below w.heap.size w ((w.alloc (.cells (List.toArray cs) 30)).alloc (.cells zPA 65)) := ((Below.refl _ _).alloc (Nat.le_refl _) _).alloc (by simp) _
  have hB0 : Blk ((w.alloc (.cells (List.toArray cs) 30)).alloc (.cells zPA 65)) w.heap.size 30 cs := by simpa using (Blk.new w 30 (List.toArray cs)).alloc (.cells zPA 65)
  have hR0 : Blk ((w.alloc (.cells (List.toArray cs) 30)).alloc (.cells zPA 65)) (w.heap.size + 1) 65 zPA.toList := by
    have := Blk.new (w.alloc (.cells (List.toArray cs) 30)) 65 zPA
    simpa using this
  go_enter Tryd.func50, Tryd.ntmps50
  go_upto_region 1 with (fail)
  generalize (w.alloc (.cells (List.toArray cs) 30)).alloc (.cells zPA 65) = W at *
  have a0 : W.cell? ⟨w.heap.size, 0, none⟩ = some (.int .i64 v.kind) := hB0.cell (by rw [HCS.out]; rfl)
  have a5 : W.cell? ⟨w.heap.size, 5, none⟩ = some (.slice al v.list.length cl) := hB0.cell (by rw [HCS.out]; rfl)
  obtain ⟨Wz, z1, z2, z4⟩ := res_prt (w := w) (cs := zPA.toList) hR0 zPAl zPAl (by intro u hu; have := zo; unfold OneC at this; rw [Array.all_eq_true'] at this; exact this u (by simpa using hu)) (by omega) hb0
  have ez : List.toArray zPA.toList = zPA := Array.toArray_toList
  rw [ez] at z1
  have hN : Hid (∀ o, o = none → PartQ w o (.returned (.tuple #[.agg (List.toArray zPA.toList), .bool false])) Wz) := fun o ho => by
    subst ho
    exact ⟨z4, _, rfl, zPAl, by rw [ez]; exact zo, fun p hp => by cases hp⟩
  have zpl := zPAl
  have z33 : (List.toArray zPA.toList).size = 33 := by rw [ez]; exact zp
  by_cases h6k : v.kind = 6
  case neg =>
    have t6 : (v.kind != 6) = true := by simpa using h6k
    have hT : Hid (partV v = none) := by show _ = _; rw [hPV.out, if_neg h6k]
    clear hPV
    generalize v.kind = k at *
    go_wp2
    exact bodyPost_ret (results_cell_tmp (fn := Tryd.f50) (p := 2) (t := 3) (by rfl) _ _ (w.heap.size + 1) 65 _ (0, 0) _ (by rfl) z2 Tryd.underlying65 rfl (by rw [z33]; exact sizePA)) rfl (hN.out _ hT.out)
  case pos =>
  have t6 : (v.kind != 6) = false := by simp [h6k]
  have hP2 : Hid (partV v = match v.list with
    | [a, b] => if a.kind = 4 ∧ a.bytes.length = 32 ∧ b.kind = 3 then some ⟨a.bytes, b.int⟩ else none
    | _ => none) := by show _ = _; rw [hPV.out, if_pos h6k]
  clear hPV h6k
  generalize v.kind = k at *
  by_cases h2 : v.list.length = 2
  case neg =>
    have t2 : ((v.list.length : Int) != 2) = true := by rw [bne_iff_ne]; omega
    have hT : Hid (partV v = none) := by
      show _ = _
      rw [hP2.out]
      split
      · rename_i a b he; rw [he] at h2; exact absurd rfl h2
      · rfl
    clear hP2
    go_wp2
    exact bodyPost_ret (results_cell_tmp (fn := Tryd.f50) (p := 2) (t := 3) (by rfl) _ _ (w.heap.size + 1) 65 _ (0, 0) _ (by rfl) z2 Tryd.underlying65 rfl (by rw [z33]; exact sizePA)) rfl (hN.out _ hT.out)
  case pos =>
  obtain ⟨x, y, hl⟩ : ∃ x y, v.list = [x, y] := by
    match v.list, h2 with
    | [x, y], _ => exact ⟨x, y, rfl⟩
  have hP3 : Hid (partV v = if x.kind = 4 ∧ x.bytes.length = 32 ∧ y.kind = 3 then some ⟨x.bytes, y.int⟩ else none) := by show _ = _; rw [hP2.out, hl]
  rw [hl] at hcss sub a5
  generalize partV v = PP at *
  clear hP2 h2 HCS
  obtain ⟨c0, c1, rfl⟩ : ∃ c0 c1, css = [c0, c1] := by
    match css, hcss with
    | [c0, c1], _ => exact ⟨c0, c1, rfl⟩
  have hs0 := hrow.elemSome (s := 6) h6 (by decide) (i := 0) (by simp)
  obtain ⟨ax, rfl⟩ := Option.isSome_iff_exists.1 hs0
  obtain ⟨_, _, bb, cbb, _, _, _, p0, _, _, _, _, hrb, _, _⟩ := VAt.cellsL (sub 0 c0 x rfl rfl)
  obtain ⟨_, _, _, _, _, _, _, p1, _, _, _, _, _, hyn, _⟩ := VAt.cellsL (sub 1 c1 y rfl rfl)
  have hrW := hrow.below (hbw.trans (hb0.mono hbw.size))
  have hrbW := hrb.below (hbw.trans (hb0.mono hbw.size))
  have d0 : W.cell? ax = some (.int .i64 x.kind) := by
    have := hrW.field (s := 6) h6 (i := 0) (j := 0) (c := c0) rfl (by rw [p0]; rfl)
    simpa [hd, Addr.add] using this
  have d2 : W.cell? ⟨ax.block, ax.off + 2, none⟩ = some (.slice bb x.bytes.length cbb) := cell_field (i := 0) (j := 2) (hrW.field (s := 6) h6 (i := 0) (j := 2) (c := c0) rfl (by rw [p0]; rfl))
  have e0 : W.cell? ⟨ax.block, ax.off + 6, none⟩ = some (.int .i64 y.kind) := cell_field (i := 6) (j := 0) (hrW.field (s := 6) h6 (i := 1) (j := 0) (c := c1) rfl (by rw [p1]; rfl))
  have e1 : W.cell? ⟨ax.block, ax.off + 6 + 1, none⟩ = some (.int .i64 y.int) := cell_field (i := 6) (j := 1) (hrW.field (s := 6) h6 (i := 1) (j := 1) (c := c1) rfl (by rw [p1]; rfl))
  clear p0 p1 sub hrow hrW
  simp only [List.length_cons, List.length_nil] at a5
  by_cases g1 : x.kind = 4
  case neg =>
    have t1 : (x.kind != 4) = true := by simpa using g1
    have hT : Hid (PP = none) := by show _ = _; rw [hP3.out, if_neg (fun h => g1 h.1)]
    clear hP3
    generalize x.kind = xk at *
    go_wp2
    exact bodyPost_ret (results_cell_tmp (fn := Tryd.f50) (p := 2) (t := 3) (by rfl) _ _ (w.heap.size + 1) 65 _ (0, 0) _ (by rfl) z2 Tryd.underlying65 rfl (by rw [z33]; exact sizePA)) rfl (hN.out _ hT.out)
  case pos =>
  have t1 : (x.kind != 4) = false := by simp [g1]
  by_cases g2 : x.bytes.length = 32
  case neg =>
    have t2 : ((x.bytes.length : Int) != 32) = true := by rw [bne_iff_ne]; omega
    have hT : Hid (PP = none) := by show _ = _; rw [hP3.out, if_neg (fun h => g2 h.2.1)]
    clear hP3
    generalize x.kind = xk at *
    go_wp2
    exact bodyPost_ret (results_cell_tmp (fn := Tryd.f50) (p := 2) (t := 3) (by rfl) _ _ (w.heap.size + 1) 65 _ (0, 0) _ (by rfl) z2 Tryd.underlying65 rfl (by rw [z33]; exact sizePA)) rfl (hN.out _ hT.out)
  case pos =>
  rw [g2] at d2
  have G2 := Lib.hid g2
  clear g2
  by_cases g3 : y.kind = 3
  case neg =>
    have t3 : (y.kind != 3) = true := by simpa using g3
    have hT : Hid (PP = none) := by show _ = _; rw [hP3.out, if_neg (fun h => g3 h.2.2)]
    clear hP3
    generalize x.kind = xk at *
    generalize y.kind = yk at *
    go_wp2
    exact bodyPost_ret (results_cell_tmp (fn := Tryd.f50) (p := 2) (t := 3) (by rfl) _ _ (w.heap.size + 1) 65 _ (0, 0) _ (by rfl) z2 Tryd.underlying65 rfl (by rw [z33]; exact sizePA)) rfl (hN.out _ hT.out)
  case pos =>
    have t3 : (y.kind != 3) = false := by simp [g3]
    have g2 := G2.out
    have hT : Hid (PP = some ⟨x.bytes, y.int⟩) := by show _ = _; rw [hP3.out, if_pos ⟨g1, g2, g3⟩]
    have hpo : PrtOk ⟨x.bytes, y.int⟩ := ⟨g2, hyn⟩
    have hab := hrb.isSome (i := 0) (by simp [g2])
    obtain ⟨ab', rfl⟩ := Option.isSome_iff_exists.1 hab
    have q1 : (ldOp 63 (.pointer (some ab'))).run Tryd.prog (W.drewN 1) = .ok (.agg (List.toArray (x.bytes.map b8))) (W.drewN 1) := ldOp_at (P := Tryd.prog) (ty := 63) (fun j v hv => (Row.drewN hrbW 1).2 j v hv) Tryd.underlying63 rfl (by rw [List.length_map, g2]; exact sizeID)
    have hbd := fun w' => bd_prt (id := x.bytes) (n := y.int) (w := w') g2
    obtain ⟨W9, y1, y2, y4⟩ := res_prt (w := w) (cs := prtC ⟨x.bytes, y.int⟩) (Blk.drewN hR0 1) zPAl (prtC_len hpo) (prtC_one _) (by omega) (Below.drewN hb0 1)
    have hPC : Hid (prtC ⟨x.bytes, y.int⟩ = prtC ⟨x.bytes, y.int⟩) := rfl
    have p33 : (List.toArray (prtC ⟨x.bytes, y.int⟩)).size = 33 := by simpa using prtC_len hpo
    have hF : Hid (PartQ w PP (.returned (.tuple #[.agg (List.toArray (prtC ⟨x.bytes, y.int⟩)), .bool true])) W9) := by
      show PartQ _ _ _ _
      rw [hT.out]
      exact ⟨y4, _, rfl, prtC_len hpo, all_oneCell_toArray (prtC_one _), fun p hp => by cases hp; exact ⟨rfl, hpo⟩⟩
    clear g2 G2 hP3 hT hPC hrb hyn hpo hN z1 z2 z4 g1 g3
    generalize x.kind = xk at *
    generalize y.kind = yk at *
    generalize prtC ⟨x.bytes, y.int⟩ = PC at *
    go_upto_region 3 with (fail)
    refine wp_region_still_tail 13 (by kernel_rfl) (by kernel_rfl) ?_
    simp only [List.take_succ_cons, List.take_zero, List.drop_succ_cons, List.drop_zero]
    change wpStill _ _ (W.drewN 1) _ _ _
    repeat still_step
    try refine wpStill_nil ?_
    change wpList _ _ _ _ _ (W.drewN 1)
    go_wp2
    exact bodyPost_ret (results_cell_tmp (fn := Tryd.f50) (p := 2) (t := 3) (by rfl) _ _ (w.heap.size + 1) 65 _ (0, 0) _ (by rfl) y2 Tryd.underlying65 rfl (by rw [p33]; exact sizePA)) rfl hF.out
end Go.Proofs.YtpchogicdnfggaaDoor
set_option maxRecDepth 20000
namespace Go.Proofs.YtpchogicdnfggaaDoor
open Go.RowKit Go.Hd
theorem sm_plain (k n : Int) (t : List UInt8) (h : t.length ≤ 65536) : Sm (.mk k n [] t [] []) := .mk (by simp) (by simp) (by simp) (by simp) h
theorem sm_byt (b : List UInt8) (h : b.length ≤ 65536) : Sm (pByt b) := .mk h (by simp) (by simp) (by simp) (by simp)
theorem sm_list (l : List PV) (h : l.length ≤ 65536) (hs : ∀ x ∈ l, Sm x) : Sm (pList l) := .mk (by simp) (by simp) h hs (by simp)
theorem sm_zero : Sm pv0 := sm_plain 0 0 [] (by simp)
theorem findK_mem : ∀ {ks : List (List UInt8)} {vs : List PV} {key : List UInt8} {x : PV}, findK ks vs key = some x → x ∈ vs
  | k :: ks, v :: vs, key, x, h => by
    rw [findK] at h
    split at h
    · cases h; exact List.mem_cons_self
    · exact List.mem_cons_of_mem _ (findK_mem h)
  | [], _, _, _, h => by cases h
  | _ :: _, [], _, _, h => by cases h
end Go.Proofs.YtpchogicdnfggaaDoor
