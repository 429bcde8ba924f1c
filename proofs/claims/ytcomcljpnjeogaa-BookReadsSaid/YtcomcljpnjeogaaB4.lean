/- Walks of layer 13: lists of rows out of lists of entries. -/
import Derived.Test.YtcomcljpnjeogaaB2
import Derived.Test.YtcomcljpnjeogaaLibR
set_option maxRecDepth 20000
namespace Go.Proofs.Ytcomcljpnjeogaa
open Go.RowKit Go.Hd
attribute [local go_sem ↓] h_ldID h_stID h_alID h_ldROW h_stROW h_alROW h_bdROW h_bsROW h_ldKD h_stKD h_alKD h_bdKD h_bsKD h_ldCD h_stCD h_alCD h_bdCD h_bsCD h_ldUS h_stUS h_alUS h_bdUS h_bsUS
attribute [local go_sem] r_ldID r_stID r_s2ID r_alID r_ldROW r_stROW r_s2ROW r_alROW r_bsROW r_ldKD r_stKD r_s2KD r_alKD r_bsKD r_ldCD r_stCD r_s2CD r_alCD r_bsCD r_ldUS r_stUS r_s2US r_alUS r_bsUS

/-- A row in memory: its key's cells, and the place of its numbers. -/
def RowIs (ok : Nat → Prop) (w : World) (cs : List Value) (r : BRow) : Prop := ∃ cell, cs = (pad r.1).map b8 ++ [cell] ∧ r.1.length ≤ 32 ∧ NumAt ok w cell r.2
theorem RowIs.len {ok : Nat → Prop} {w : World} {cs : List Value} {r : BRow} (h : RowIs ok w cs r) : cs.length = 33 := by
  obtain ⟨cell, rfl, h1, _⟩ := h
  simp [pad_length h1]
theorem RowIs.one {ok : Nat → Prop} {w : World} {cs : List Value} {r : BRow} (h : RowIs ok w cs r) : ∀ v ∈ cs, v.oneCell' = true := by
  obtain ⟨cell, rfl, h1, a, n, c, rfl, _⟩ := h
  intro v hv
  rcases List.mem_append.1 hv with h | h
  · exact bytes_one _ v h
  · simp at h; subst h; rfl
/-- Rows side by side. -/
def RowsIs (ok : Nat → Prop) (w : World) (cs : List (List Value)) (l : List BRow) : Prop := cs.length = l.length ∧ ∀ (i : Nat) (r : BRow), l[i]? = some r → ∃ c, cs[i]? = some c ∧ RowIs ok w c r
theorem RowsIs.all {ok : Nat → Prop} {w : World} {cs : List (List Value)} {l : List BRow} (h : RowsIs ok w cs l) : ∀ c ∈ cs, c.length = 33 := by
  intro c hc
  obtain ⟨i, hi⟩ := List.getElem?_of_mem hc
  have hlt : i < cs.length := by
    rcases Nat.lt_or_ge i cs.length with h | h
    · exact h
    · rw [List.getElem?_eq_none h] at hi; cases hi
  obtain ⟨c', hc', hr⟩ := h.2 i (l[i]'(by have := h.1; omega)) (by simp)
  rw [hi] at hc'
  cases hc'
  exact hr.len
theorem RowsIs.mono {ok ok' : Nat → Prop} {w : World} {cs : List (List Value)} {l : List BRow} (h : RowsIs ok w cs l) (hk : ∀ b, ok b → ok' b) : RowsIs ok' w cs l :=
  ⟨h.1, fun i r hr => by
    obtain ⟨c, h1, cell, h2, h3, h4⟩ := h.2 i r hr
    exact ⟨c, h1, cell, h2, h3, h4.mono hk⟩⟩
theorem RowsIs.below {ok : Nat → Prop} {w w' : World} {cs : List (List Value)} {l : List BRow} (h : RowsIs ok w cs l) (hb : Below w.heap.size w w') : RowsIs ok w' cs l :=
  ⟨h.1, fun i r hr => by
    obtain ⟨c, h1, cell, h2, h3, h4⟩ := h.2 i r hr
    exact ⟨c, h1, cell, h2, h3, h4.below hb⟩⟩
theorem RowsIs.kept {ok : Nat → Prop} {w w' : World} {r : Option Nat} {cs : List (List Value)} {l : List BRow} (h : RowsIs ok w cs l) (hg : w.grownBy w' r) (hk : ∀ b, ok b → r ≠ some b) : RowsIs ok w' cs l :=
  ⟨h.1, fun i r hr => by
    obtain ⟨c, h1, cell, h2, h3, h4⟩ := h.2 i r hr
    exact ⟨c, h1, cell, h2, h3, h4.kept hg hk⟩⟩
theorem RowsIs.snoc {ok : Nat → Prop} {w : World} {cs : List (List Value)} {l : List BRow} {c : List Value} {r : BRow} (h : RowsIs ok w cs l) (hr : RowIs ok w c r) : RowsIs ok w (cs ++ [c]) (l ++ [r]) := by
  refine ⟨by simp [h.1], fun i s hs => ?_⟩
  by_cases hi : i < l.length
  · rw [List.getElem?_append_left hi] at hs
    obtain ⟨c', h1, h2⟩ := h.2 i s hs
    exact ⟨c', by rw [List.getElem?_append_left (by have := h.1; omega)]; exact h1, h2⟩
  · rw [List.getElem?_append_right (by omega)] at hs
    have hz : i - l.length = 0 := by
      rcases Nat.eq_zero_or_pos (i - l.length) with h0 | h0
      · exact h0
      · rw [List.getElem?_eq_none (by simp; omega)] at hs; cases hs
    rw [hz] at hs
    simp at hs
    subst hs
    have hil : i = cs.length := by have := h.1; omega
    exact ⟨c, by rw [hil]; simp, hr⟩
theorem RowsIs.nil (ok : Nat → Prop) (w : World) : RowsIs ok w [] [] := ⟨rfl, by simp⟩
/-- Rows that a call owns. -/
def RowsOwn (B : Nat) (w : World) (v : Value) (l : List BRow) : Prop := ∃ cs, w.ownsRow B 74 33 v l.length cs.flatten ∧ RowsIs (fun b => B ≤ b ∧ b < w.heap.size ∧ v.ownBlock ≠ some b) w cs l
/-- Rows that are read. -/
def RowsRd (w : World) (a : Option Addr) (l : List BRow) : Prop := ∃ cs, Row w a cs.flatten ∧ RowsIs (fun b => b < w.heap.size) w cs l
theorem eROW : Elem Try.prog 64 74 (.agg zROW) 33 56 := ⟨by kernel_rfl, by kernel_rfl, rfl, by decide⟩
theorem owns_atS {w : World} {base : Nat} {e : TypeId} {s : Nat} {v : Value} {n : Nat} {xs : List Value} (h : w.ownsRow base e s v n xs) :
    ∃ a c, v = .slice a n c ∧ n ≤ c ∧ c ≤ maxLen ∧ Row w a xs ∧ (0 < xs.length → base ≤ (hd a).block ∧ (hd a).block < w.heap.size) := by
  obtain ⟨h1, h2⟩ := h
  rcases h2 with ⟨rfl, rfl⟩ | ⟨g, cap, cur, rfl, hg, hh, hc, hm, hs, ht⟩
  · obtain rfl : xs = [] := List.eq_nil_of_length_eq_zero (by simpa using h1)
    exact ⟨none, 0, rfl, Nat.le_refl _, Nat.zero_le _, Row.nil _ _, fun h => by simp at h⟩
  · have hB : Blk w g e cur.toList := by unfold Blk; simpa using hh
    refine ⟨_, cap, rfl, hc, hm, ?_, fun _ => ⟨hg, hB.lt⟩⟩
    rw [← ht]; exact hB.row.take _
theorem RowsOwn.rd {B : Nat} {w : World} {v : Value} {l : List BRow} (h : RowsOwn B w v l) : ∃ a c, v = .slice a l.length c ∧ l.length ≤ c ∧ c ≤ maxLen ∧ RowsRd w a l := by
  obtain ⟨cs, h1, h2⟩ := h
  obtain ⟨a, c, e, hc, hm, hr, _⟩ := owns_atS h1
  exact ⟨a, c, e, hc, hm, cs, hr, h2.mono fun b hb => hb.2.1⟩
theorem RowsRd.below {w w' : World} {a : Option Addr} {l : List BRow} (h : RowsRd w a l) (hb : Below w.heap.size w w') : RowsRd w' a l := by
  obtain ⟨cs, h1, h2⟩ := h
  exact ⟨cs, h1.below hb, (h2.below hb).mono fun b h => Nat.lt_of_lt_of_le h hb.size⟩
/-- Entries that are read. -/
def EntRd (s : Nat) (w : World) (a : Option Addr) (l : List BRow) : Prop := Row w a (l.map entL).flatten ∧ ∀ r ∈ l, (entL r).length = s
theorem EntRd.all {s : Nat} {w : World} {a : Option Addr} {l : List BRow} (h : EntRd s w a l) : ∀ x ∈ l.map entL, x.length = s := by
  intro x hx
  obtain ⟨r, hr, rfl⟩ := List.mem_map.1 hx
  exact h.2 r hr

theorem plain_KD {a : Option Addr} {n c : Nat} {l : List BRow} {w : World} (hn : n = l.length) (hl : EntRd 35 w a l) (hf : ∀ r ∈ l, r.1.length = 32 ∧ r.2.length = 3) (hm : l.length ≤ 65536) :
    Calls Try.prog 31 #[.slice a n c, .func (.func 32) #[] #[]] w fun e w' => ∃ v, e = .returned v ∧ RowsOwn w.heap.size w' v l ∧ Below w.heap.size w w' := by
  subst hn
  have zs := zKD_size
  go_enter Try.func31, Try.ntmps31
  go_wp2
  go_loopw [5, 10] (fun v i wr => ∃ k : Nat, k ≤ l.length ∧ i = .int .i64 k ∧ RowsOwn w.heap.size wr v (l.take k) ∧ Below w.heap.size w wr) (fun _ i _ => l.length - (intOf i).toNat)
  case atStart => exact ⟨0, Nat.zero_le _, rfl, ⟨[], World.ownsRow_nil _ _ _ _, RowsIs.nil _ _⟩, Below.refl _ _⟩
  case round =>
    obtain ⟨k, hk, rfl, hv, hb⟩ := hrel
    by_cases hlt : k < l.length
    · have hr := hf l[k] (List.getElem_mem hlt)
      have hrow := hl.1.below hb
      have hs1 := hrow.elemSome (s := 35) hl.all (by decide) (i := k) (by simpa using hlt)
      have q1 := ldOp_at (P := Try.prog) (ty := 71) (hrow.elem (s := 35) hl.all (i := k) (c := entL l[k]) (by simp [hlt])) Try.underlying71 rfl (by rw [hl.2 _ (List.getElem_mem hlt)]; exact sizeKD)
      have q2 : (entA l[k]).size = 35 := entA_KD hr.1 hr.2
      have q3 := entA_one l[k]
      have q1' : (ldOp 71 (.pointer (some ((hd a).add (k * 35))))).run Try.prog wr = .ok (.agg (entA l[k])) wr := q1
      have ht := List.take_succ_eq_append_getElem hlt
      have HT := Lib.hid ht
      clear ht q1 hrow
      generalize l[k] = r at *
      have hsz := hb.size
      obtain ⟨cs, ho, hcs⟩ := hv
      go_wp2_with fail
      refine (clo_KD r _ hr.1 hr.2).mono ?_
      rintro e w1 ⟨g, rfl, hg, hB, hb1⟩
      have hsz1 : wr.heap.size + 1 ≤ g := by simpa using hg
      have hbw : Below w.heap.size w w1 := (hb.alloc hsz _).trans (hb1.mono (by simp; omega))
      have hbr : Below wr.heap.size wr w1 := ((Below.refl _ _).alloc (Nat.le_refl _) _).trans (hb1.mono (by simp))
      have hlen := (List.length_take_le k l)
      have hlk : (l.take k).length = k := by simp; omega
      have hcell : NumAt (fun b => b = g) w1 (.slice (some ⟨g, 0, none⟩) 3 3) r.2 := ⟨_, 3, 3, rfl, by rw [hr.2], Nat.le_refl _, by decide, hB.row, fun _ => rfl⟩
      have hsrc : Src Try.prog 33 64 (.slice (some ⟨w1.heap.size, 0, none⟩) 1 1) 1 (rowL (pad r.1) (some ⟨g, 0, none⟩) 3 3) (w1.alloc (.cells (rowA (pad r.1) (some ⟨g, 0, none⟩) 3 3) 74)) :=
        Src.ofRow eROW.ht _ 1 1 _ (by decide) (by have := rowA_size (pad_length (by omega : r.1.length ≤ 32)) (some ⟨g, 0, none⟩) 3 3; simpa [rowA] using this) (row_alloc _ _ _ _) (rowL_one _ _ _ _)
      obtain ⟨v', w2, hrun, hown2, hg2, hk2⟩ := append_srcK (ty := 64) eROW ((ownsRow_below ho hbr).alloc (.cells (rowA (pad r.1) (some ⟨g, 0, none⟩) 3 3) 74)) hsrc (by unfold maxLen; omega) (by omega) (by have := hbw.size; simp; omega)
      have hgl := hB.lt
      have hb2 : Below w.heap.size w w2 := by
        refine (hbw.alloc hbw.size _).trans (Below.ofGrown hg2 ((ownsRow_below ho hbr).alloc _) (by have := hbw.size; simp; omega))
      have hfar : ∀ q, u5.ownBlock = some q → q < wr.heap.size := fun q hq => (ho.lt q hq).2
      have HV : Hid (RowsOwn w.heap.size w2 v' (l.take (k + 1))) := by
        show RowsOwn _ _ _ _
        have h1 : RowsIs (fun b => w.heap.size ≤ b ∧ b < w1.heap.size ∧ u5.ownBlock ≠ some b) w1 cs (l.take k) := (hcs.below hbr).mono fun b hb => ⟨hb.1, Nat.lt_of_lt_of_le hb.2.1 hbr.size, hb.2.2⟩
        have h2 : RowsIs (fun b => w.heap.size ≤ b ∧ b < w1.heap.size ∧ u5.ownBlock ≠ some b) w1 (cs ++ [rowL (pad r.1) (some ⟨g, 0, none⟩) 3 3]) (l.take k ++ [r]) :=
          h1.snoc ⟨_, rfl, by omega, hcell.mono fun b hb => by subst hb; exact ⟨by omega, hgl, fun e => by have := hfar _ e; omega⟩⟩
        have h3 := (h2.below ((Below.refl _ _).alloc (Nat.le_refl _) (.cells (rowA (pad r.1) (some ⟨g, 0, none⟩) 3 3) 74))).kept hg2 (fun b hb => hb.2.2)
        rw [HT.out]
        refine ⟨_, ?_, h3.mono fun b hb => ⟨hb.1, by have := hg2.size; simp at this; omega, fun e => ?_⟩⟩
        · rw [List.flatten_append, List.length_append, List.flatten_cons, List.flatten_nil, List.append_nil]
          exact hown2
        · rcases hk2 _ e with h | h
          · exact hb.2.2 h
          · simp at h; omega
      have q4 := rowA_size (pad_length (by omega : r.1.length ≤ 32)) (some ⟨g, 0, none⟩) 3 3
      clear hown2 hg2 hk2 hsrc hcell ho hcs hfar hB hbr hbw hb1 hlk hr
      go_wp2_with (at_builtin; refine wpList_append_run hrun rfl rfl rfl rfl ?_)
      first
        | exact ⟨⟨k + 1, by omega, (by first | rfl | go_num | (congr 1; omega)), HV.out, hb2⟩, by simp [intOf] <;> omega⟩
        | (refine ⟨?_, by simp [intOf] <;> omega⟩; (repeat apply Exists.intro); exact ⟨⟨k + 1, by omega, (by first | rfl | go_num | (congr 1; omega)), HV.out, hb2⟩, rfl⟩)
    · obtain rfl : k = l.length := by omega
      go_wp2
      go_ret
      rw [List.take_length] at hv
      exact ⟨_, rfl, hv, hb⟩
theorem plain_CD {a : Option Addr} {n c : Nat} {l : List BRow} {w : World} (hn : n = l.length) (hl : EntRd 34 w a l) (hf : ∀ r ∈ l, r.1.length = 32 ∧ r.2.length = 2) (hm : l.length ≤ 65536) :
    Calls Try.prog 34 #[.slice a n c, .func (.func 35) #[] #[]] w fun e w' => ∃ v, e = .returned v ∧ RowsOwn w.heap.size w' v l ∧ Below w.heap.size w w' := by
  subst hn
  have zs := zCD_size
  go_enter Try.func34, Try.ntmps34
  go_wp2
  go_loopw [5, 10] (fun v i wr => ∃ k : Nat, k ≤ l.length ∧ i = .int .i64 k ∧ RowsOwn w.heap.size wr v (l.take k) ∧ Below w.heap.size w wr) (fun _ i _ => l.length - (intOf i).toNat)
  case atStart => exact ⟨0, Nat.zero_le _, rfl, ⟨[], World.ownsRow_nil _ _ _ _, RowsIs.nil _ _⟩, Below.refl _ _⟩
  case round =>
    obtain ⟨k, hk, rfl, hv, hb⟩ := hrel
    by_cases hlt : k < l.length
    · have hr := hf l[k] (List.getElem_mem hlt)
      have hrow := hl.1.below hb
      have hs1 := hrow.elemSome (s := 34) hl.all (by decide) (i := k) (by simpa using hlt)
      have q1 := ldOp_at (P := Try.prog) (ty := 80) (hrow.elem (s := 34) hl.all (i := k) (c := entL l[k]) (by simp [hlt])) Try.underlying80 rfl (by rw [hl.2 _ (List.getElem_mem hlt)]; exact sizeCD)
      have q2 : (entA l[k]).size = 34 := entA_CD hr.1 hr.2
      have q3 := entA_one l[k]
      have q1' : (ldOp 80 (.pointer (some ((hd a).add (k * 34))))).run Try.prog wr = .ok (.agg (entA l[k])) wr := q1
      have ht := List.take_succ_eq_append_getElem hlt
      have HT := Lib.hid ht
      clear ht q1 hrow
      generalize l[k] = r at *
      have hsz := hb.size
      obtain ⟨cs, ho, hcs⟩ := hv
      go_wp2_with fail
      refine (clo_CD r _ hr.1 hr.2).mono ?_
      rintro e w1 ⟨g, rfl, hg, hB, hb1⟩
      have hsz1 : wr.heap.size + 1 ≤ g := by simpa using hg
      have hbw : Below w.heap.size w w1 := (hb.alloc hsz _).trans (hb1.mono (by simp; omega))
      have hbr : Below wr.heap.size wr w1 := ((Below.refl _ _).alloc (Nat.le_refl _) _).trans (hb1.mono (by simp))
      have hlen := (List.length_take_le k l)
      have hlk : (l.take k).length = k := by simp; omega
      have hcell : NumAt (fun b => b = g) w1 (.slice (some ⟨g, 0, none⟩) 2 2) r.2 := ⟨_, 2, 2, rfl, by rw [hr.2], Nat.le_refl _, by decide, hB.row, fun _ => rfl⟩
      have hsrc : Src Try.prog 33 64 (.slice (some ⟨w1.heap.size, 0, none⟩) 1 1) 1 (rowL (pad r.1) (some ⟨g, 0, none⟩) 2 2) (w1.alloc (.cells (rowA (pad r.1) (some ⟨g, 0, none⟩) 2 2) 74)) :=
        Src.ofRow eROW.ht _ 1 1 _ (by decide) (by have := rowA_size (pad_length (by omega : r.1.length ≤ 32)) (some ⟨g, 0, none⟩) 2 2; simpa [rowA] using this) (row_alloc _ _ _ _) (rowL_one _ _ _ _)
      obtain ⟨v', w2, hrun, hown2, hg2, hk2⟩ := append_srcK (ty := 64) eROW ((ownsRow_below ho hbr).alloc (.cells (rowA (pad r.1) (some ⟨g, 0, none⟩) 2 2) 74)) hsrc (by unfold maxLen; omega) (by omega) (by have := hbw.size; simp; omega)
      have hgl := hB.lt
      have hb2 : Below w.heap.size w w2 := by
        refine (hbw.alloc hbw.size _).trans (Below.ofGrown hg2 ((ownsRow_below ho hbr).alloc _) (by have := hbw.size; simp; omega))
      have hfar : ∀ q, u5.ownBlock = some q → q < wr.heap.size := fun q hq => (ho.lt q hq).2
      have HV : Hid (RowsOwn w.heap.size w2 v' (l.take (k + 1))) := by
        show RowsOwn _ _ _ _
        have h1 : RowsIs (fun b => w.heap.size ≤ b ∧ b < w1.heap.size ∧ u5.ownBlock ≠ some b) w1 cs (l.take k) := (hcs.below hbr).mono fun b hb => ⟨hb.1, Nat.lt_of_lt_of_le hb.2.1 hbr.size, hb.2.2⟩
        have h2 : RowsIs (fun b => w.heap.size ≤ b ∧ b < w1.heap.size ∧ u5.ownBlock ≠ some b) w1 (cs ++ [rowL (pad r.1) (some ⟨g, 0, none⟩) 2 2]) (l.take k ++ [r]) :=
          h1.snoc ⟨_, rfl, by omega, hcell.mono fun b hb => by subst hb; exact ⟨by omega, hgl, fun e => by have := hfar _ e; omega⟩⟩
        have h3 := (h2.below ((Below.refl _ _).alloc (Nat.le_refl _) (.cells (rowA (pad r.1) (some ⟨g, 0, none⟩) 2 2) 74))).kept hg2 (fun b hb => hb.2.2)
        rw [HT.out]
        refine ⟨_, ?_, h3.mono fun b hb => ⟨hb.1, by have := hg2.size; simp at this; omega, fun e => ?_⟩⟩
        · rw [List.flatten_append, List.length_append, List.flatten_cons, List.flatten_nil, List.append_nil]
          exact hown2
        · rcases hk2 _ e with h | h
          · exact hb.2.2 h
          · simp at h; omega
      have q4 := rowA_size (pad_length (by omega : r.1.length ≤ 32)) (some ⟨g, 0, none⟩) 2 2
      clear hown2 hg2 hk2 hsrc hcell ho hcs hfar hB hbr hbw hb1 hlk hr
      go_wp2_with (at_builtin; refine wpList_append_run hrun rfl rfl rfl rfl ?_)
      first
        | exact ⟨⟨k + 1, by omega, (by first | rfl | go_num | (congr 1; omega)), HV.out, hb2⟩, by simp [intOf] <;> omega⟩
        | (refine ⟨?_, by simp [intOf] <;> omega⟩; (repeat apply Exists.intro); exact ⟨⟨k + 1, by omega, (by first | rfl | go_num | (congr 1; omega)), HV.out, hb2⟩, rfl⟩)
    · obtain rfl : k = l.length := by omega
      go_wp2
      go_ret
      rw [List.take_length] at hv
      exact ⟨_, rfl, hv, hb⟩
theorem plain_US {a : Option Addr} {n c : Nat} {l : List BRow} {w : World} (hn : n = l.length) (hl : EntRd 3 w a l) (hf : ∀ r ∈ l, r.1.length = 0 ∧ r.2.length = 3) (hm : l.length ≤ 65536) :
    Calls Try.prog 37 #[.slice a n c, .func (.func 38) #[] #[]] w fun e w' => ∃ v, e = .returned v ∧ RowsOwn w.heap.size w' v l ∧ Below w.heap.size w w' := by
  subst hn
  have zs := zUS_size
  go_enter Try.func37, Try.ntmps37
  go_wp2
  go_loopw [5, 10] (fun v i wr => ∃ k : Nat, k ≤ l.length ∧ i = .int .i64 k ∧ RowsOwn w.heap.size wr v (l.take k) ∧ Below w.heap.size w wr) (fun _ i _ => l.length - (intOf i).toNat)
  case atStart => exact ⟨0, Nat.zero_le _, rfl, ⟨[], World.ownsRow_nil _ _ _ _, RowsIs.nil _ _⟩, Below.refl _ _⟩
  case round =>
    obtain ⟨k, hk, rfl, hv, hb⟩ := hrel
    by_cases hlt : k < l.length
    · have hr := hf l[k] (List.getElem_mem hlt)
      have hrow := hl.1.below hb
      have hs1 := hrow.elemSome (s := 3) hl.all (by decide) (i := k) (by simpa using hlt)
      have q1 := ldOp_at (P := Try.prog) (ty := 84) (hrow.elem (s := 3) hl.all (i := k) (c := entL l[k]) (by simp [hlt])) Try.underlying84 rfl (by rw [hl.2 _ (List.getElem_mem hlt)]; exact sizeUS)
      have q2 : (entA l[k]).size = 3 := entA_US hr.1 hr.2
      have q3 := entA_one l[k]
      have q1' : (ldOp 84 (.pointer (some ((hd a).add (k * 3))))).run Try.prog wr = .ok (.agg (entA l[k])) wr := q1
      have ht := List.take_succ_eq_append_getElem hlt
      have HT := Lib.hid ht
      clear ht q1 hrow
      generalize l[k] = r at *
      have hsz := hb.size
      obtain ⟨cs, ho, hcs⟩ := hv
      go_wp2_with fail
      refine (clo_US r _ hr.1 hr.2).mono ?_
      rintro e w1 ⟨g, rfl, hg, hB, hb1⟩
      have hsz1 : wr.heap.size + 1 ≤ g := by simpa using hg
      have hbw : Below w.heap.size w w1 := (hb.alloc hsz _).trans (hb1.mono (by simp; omega))
      have hbr : Below wr.heap.size wr w1 := ((Below.refl _ _).alloc (Nat.le_refl _) _).trans (hb1.mono (by simp))
      have hlen := (List.length_take_le k l)
      have hlk : (l.take k).length = k := by simp; omega
      have hcell : NumAt (fun b => b = g) w1 (.slice (some ⟨g, 0, none⟩) 3 3) r.2 := ⟨_, 3, 3, rfl, by rw [hr.2], Nat.le_refl _, by decide, hB.row, fun _ => rfl⟩
      have hsrc : Src Try.prog 33 64 (.slice (some ⟨w1.heap.size, 0, none⟩) 1 1) 1 (rowL (pad r.1) (some ⟨g, 0, none⟩) 3 3) (w1.alloc (.cells (rowA (pad r.1) (some ⟨g, 0, none⟩) 3 3) 74)) :=
        Src.ofRow eROW.ht _ 1 1 _ (by decide) (by have := rowA_size (pad_length (by omega : r.1.length ≤ 32)) (some ⟨g, 0, none⟩) 3 3; simpa [rowA] using this) (row_alloc _ _ _ _) (rowL_one _ _ _ _)
      obtain ⟨v', w2, hrun, hown2, hg2, hk2⟩ := append_srcK (ty := 64) eROW ((ownsRow_below ho hbr).alloc (.cells (rowA (pad r.1) (some ⟨g, 0, none⟩) 3 3) 74)) hsrc (by unfold maxLen; omega) (by omega) (by have := hbw.size; simp; omega)
      have hgl := hB.lt
      have hb2 : Below w.heap.size w w2 := by
        refine (hbw.alloc hbw.size _).trans (Below.ofGrown hg2 ((ownsRow_below ho hbr).alloc _) (by have := hbw.size; simp; omega))
      have hfar : ∀ q, u5.ownBlock = some q → q < wr.heap.size := fun q hq => (ho.lt q hq).2
      have HV : Hid (RowsOwn w.heap.size w2 v' (l.take (k + 1))) := by
        show RowsOwn _ _ _ _
        have h1 : RowsIs (fun b => w.heap.size ≤ b ∧ b < w1.heap.size ∧ u5.ownBlock ≠ some b) w1 cs (l.take k) := (hcs.below hbr).mono fun b hb => ⟨hb.1, Nat.lt_of_lt_of_le hb.2.1 hbr.size, hb.2.2⟩
        have h2 : RowsIs (fun b => w.heap.size ≤ b ∧ b < w1.heap.size ∧ u5.ownBlock ≠ some b) w1 (cs ++ [rowL (pad r.1) (some ⟨g, 0, none⟩) 3 3]) (l.take k ++ [r]) :=
          h1.snoc ⟨_, rfl, by omega, hcell.mono fun b hb => by subst hb; exact ⟨by omega, hgl, fun e => by have := hfar _ e; omega⟩⟩
        have h3 := (h2.below ((Below.refl _ _).alloc (Nat.le_refl _) (.cells (rowA (pad r.1) (some ⟨g, 0, none⟩) 3 3) 74))).kept hg2 (fun b hb => hb.2.2)
        rw [HT.out]
        refine ⟨_, ?_, h3.mono fun b hb => ⟨hb.1, by have := hg2.size; simp at this; omega, fun e => ?_⟩⟩
        · rw [List.flatten_append, List.length_append, List.flatten_cons, List.flatten_nil, List.append_nil]
          exact hown2
        · rcases hk2 _ e with h | h
          · exact hb.2.2 h
          · simp at h; omega
      have q4 := rowA_size (pad_length (by omega : r.1.length ≤ 32)) (some ⟨g, 0, none⟩) 3 3
      clear hown2 hg2 hk2 hsrc hcell ho hcs hfar hB hbr hbw hb1 hlk hr
      go_wp2_with (at_builtin; refine wpList_append_run hrun rfl rfl rfl rfl ?_)
      first
        | exact ⟨⟨k + 1, by omega, (by first | rfl | go_num | (congr 1; omega)), HV.out, hb2⟩, by simp [intOf] <;> omega⟩
        | (refine ⟨?_, by simp [intOf] <;> omega⟩; (repeat apply Exists.intro); exact ⟨⟨k + 1, by omega, (by first | rfl | go_num | (congr 1; omega)), HV.out, hb2⟩, rfl⟩)
    · obtain rfl : k = l.length := by omega
      go_wp2
      go_ret
      rw [List.take_length] at hv
      exact ⟨_, rfl, hv, hb⟩
end Go.Proofs.Ytcomcljpnjeogaa
