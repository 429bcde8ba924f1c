/- Layer 05: values under construction: what they lie in, what keeps them. -/
import Derived.Test.YtakliplkabgmbaaV16
set_option maxRecDepth 20000
namespace Go.Proofs.Ytakliplkabgmbaa
open Go.RowKit Go.Hd

/-- Six cells that hold a value, all of whose rows lie in blocks that are ok. -/
inductive VAtP (ok : Nat → Prop) (w : World) : List Value → PV → Prop
  | mk {k n : Int} {b t : List UInt8} {ks : List (List UInt8)} {l : List PV} {ab ak al : Option Addr} {cb ck cl : Nat} (css : List (List Value))
      (hk : in64 k) (hn : in64 n) (hb : Row w ab (b.map b8)) (hbc : b.length ≤ cb ∧ cb ≤ maxLen) (ht : t.length ≤ maxLen)
      (hks : Row w ak (ks.map strV)) (hkc : ks.length ≤ ck ∧ ck ≤ maxLen) (hkt : ∀ x ∈ ks, x.length ≤ maxLen) (hl : Row w al css.flatten) (hlc : l.length ≤ cl ∧ cl ≤ maxLen) (hcs : css.length = l.length) (h6 : ∀ c ∈ css, c.length = 6)
      (ob : 0 < b.length → ok (hd ab).block) (oks : 0 < ks.length → ok (hd ak).block) (ol : 0 < l.length → ok (hd al).block)
      (sub : ∀ (i : Nat) (c : List Value) (v : PV), css[i]? = some c → l[i]? = some v → VAtP ok w c v) :
      VAtP ok w [.int .i64 k, .int .i64 n, .slice ab b.length cb, strV t, .slice ak ks.length ck, .slice al l.length cl] (.mk k n b t ks l)
theorem VAtP.at {ok : Nat → Prop} {w : World} {cs : List Value} {v : PV} (h : VAtP ok w cs v) : VAt w cs v := by
  induction h with
  | mk css hk hn hb hbc ht hks hkc hkt hl hlc hcs h6 _ _ _ _ ih => exact .mk css hk hn hb hbc ht hks hkc hkt hl hlc hcs h6 ih
theorem Row.keptP {ok : Nat → Prop} {w w' : World} {a : Option Addr} {xs : List Value} (h : Row w a xs) (ho : 0 < xs.length → ok (hd a).block) (hs : ∀ b, ok b → b < w.heap.size → w'.heap[b]? = w.heap[b]?) : Row w' a xs := by
  refine ⟨h.1, fun i u hu => ?_⟩
  have hc := h.2 i u hu
  have hpos : 0 < xs.length := by
    rcases Nat.lt_or_ge i xs.length with h1 | h1
    · omega
    · rw [List.getElem?_eq_none h1] at hu; cases hu
  have hlt := h.block_lt hpos
  rw [World.cell?_of_block (w := w) (by rw [add_block]; exact hs _ (ho hpos) hlt)]
  exact hc
theorem flat_pos {α : Type} {s : Nat} {xs : List (List α)} (_ : ∀ x ∈ xs, x.length = s) (h : 0 < xs.flatten.length) : 0 < xs.length := by
  rcases Nat.eq_zero_or_pos xs.length with h0 | h0
  · rw [List.eq_nil_of_length_eq_zero h0] at h; simp at h
  · exact h0
theorem VAtP.same {ok : Nat → Prop} {w w' : World} {cs : List Value} {v : PV} (h : VAtP ok w cs v) (hs : ∀ b, ok b → b < w.heap.size → w'.heap[b]? = w.heap[b]?) : VAtP ok w' cs v := by
  induction h with
  | mk css hk hn hb hbc ht hks hkc hkt hl hlc hcs h6 ob oks ol _ ih =>
    exact .mk css hk hn (Row.keptP hb (by simpa using ob) hs) hbc ht (Row.keptP hks (by simpa using oks) hs) hkc hkt (Row.keptP hl (fun h => ol (by have := flat_pos h6 h; omega)) hs) hlc hcs h6 ob oks ol ih
theorem VAtP.mono {ok ok' : Nat → Prop} {w : World} {cs : List Value} {v : PV} (h : VAtP ok w cs v) (hk : ∀ b, ok b → b < w.heap.size → ok' b) : VAtP ok' w cs v := by
  induction h with
  | mk css hki hn hb hbc ht hks hkc hkt hl hlc hcs h6 ob oks ol _ ih =>
    refine .mk css hki hn hb hbc ht hks hkc hkt hl hlc hcs h6 (fun h0 => hk _ (ob h0) (hb.block_lt (by simpa using h0))) (fun h0 => hk _ (oks h0) (hks.block_lt (by simpa using h0))) (fun h0 => hk _ (ol h0) (hl.block_lt ?_)) ih
    rw [flatten_len h6]; omega
theorem VAtP.len {ok : Nat → Prop} {w : World} {cs : List Value} {v : PV} (h : VAtP ok w cs v) : cs.length = 6 := h.at.len
theorem VAtP.one {ok : Nat → Prop} {w : World} {cs : List Value} {v : PV} (h : VAtP ok w cs v) : ∀ u ∈ cs, u.oneCell' = true := h.at.one
theorem VAtP.grow {ok : Nat → Prop} {w w' : World} {cs : List Value} {v : PV} (h : VAtP ok w cs v) (hb : Below w.heap.size w w') : VAtP ok w' cs v := h.same (fun b _ hlt => hb.block b hlt)

/-! Slices of the call's own, of texts, of values. -/
theorem eV : Elem Try.prog 61 63 (.agg zV) 6 104 := ⟨by kernel_rfl, by kernel_rfl, rfl, by decide⟩
/-- A slice of values of the call's own; the values' rows lie in blocks that are ok. -/
def VsAt (ok : Nat → Prop) (base : Nat) (w : World) (u : Value) (vs : List PV) : Prop :=
  ∃ css : List (List Value), css.length = vs.length ∧ (∀ c ∈ css, c.length = 6) ∧ w.ownsRow base 63 6 u vs.length css.flatten ∧ ∀ (i : Nat) (c : List Value) (v : PV), css[i]? = some c → vs[i]? = some v → VAtP ok w c v
theorem flat_snoc {α : Type} (xs : List (List α)) (c : List α) : (xs ++ [c]).flatten = xs.flatten ++ c := by simp
theorem VsAt.app {ok ok' : Nat → Prop} {base : Nat} {w : World} {u : Value} {vs : List PV} {c : List Value} {x : PV} {ty : TypeId} (h : VsAt ok base w u vs) (hok : ∀ b, ok b → u.ownBlock ≠ some b) (hx : VAtP ok w c x) (hok' : ∀ b, ok b → b < w.heap.size → ok' b)
    (hn : vs.length ≤ 1000000000) (hb : base ≤ w.heap.size) :
    ∃ a' c' w', (Builtin.append_ #[61, 61] ty #[u, .slice (some ⟨w.heap.size, 0, none⟩) 1 1]).run Try.prog (w.alloc (.cells c.toArray 63)) = .ok (.slice a' (vs.length + 1) c') w' ∧ VsAt ok' base w' (.slice a' (vs.length + 1) c') (vs ++ [x]) ∧ Gro w w' u (.slice a' (vs.length + 1) c') := by
  obtain ⟨css, hc1, hc2, hown, hel⟩ := h
  have hl6 := hx.len
  have hsrc : Src Try.prog 6 61 (.slice (some ⟨w.heap.size, 0, none⟩) 1 1) 1 c (w.alloc (.cells c.toArray 63)) :=
    Src.ofRow eV.ht _ 1 1 c (by decide) (by rw [hl6]) (by simpa using (Blk.new w 63 c.toArray).row) hx.one
  obtain ⟨v', w', h1, h2, h3, h4⟩ := append_srcK (ty := ty) eV (hown.alloc _) hsrc (by unfold maxLen; omega) (by omega) (by simp; omega)
  obtain ⟨a', c', rfl, _⟩ := owns_rowN h2 (by decide)
  have hb0 : Below w.heap.size w (w.alloc (.cells c.toArray 63)) := (Below.refl _ _).alloc (Nat.le_refl _) _
  have hG : Gro w w' u (.slice a' (vs.length + 1) c') := (Gro.ofBelow hb0).trans ⟨h3, h4⟩
  have keep : ∀ {d : List Value} {y : PV}, VAtP ok w d y → VAtP ok' w' d y := fun hd =>
    (hd.mono (ok' := fun b => ok b ∧ b < w.heap.size) (fun b h1 h2 => ⟨h1, h2⟩)).same (w' := w') (fun b h1 h2 => hG.gr.block b h2 (fun e => hok b h1.1 e.symm)) |>.mono (fun b h1 _ => hok' b h1.1 h1.2)
  refine ⟨a', c', w', h1, ⟨css ++ [c], by simp [hc1], ?_, ?_, ?_⟩, hG⟩
  · intro d hd
    rcases List.mem_append.1 hd with h | h
    · exact hc2 d h
    · simp at h; subst h; exact hl6
  · rw [flat_snoc]; simpa using h2
  · intro i d y hd hy
    rcases Nat.lt_or_ge i css.length with h | h
    · rw [List.getElem?_append_left h] at hd
      rw [List.getElem?_append_left (by omega)] at hy
      exact keep (hel i d y hd hy)
    · rw [List.getElem?_append_right h] at hd
      rw [List.getElem?_append_right (by omega)] at hy
      have hi : i - css.length = 0 := by
        rcases Nat.eq_zero_or_pos (i - css.length) with h0 | h0
        · exact h0
        · rw [List.getElem?_eq_none (by simp; omega)] at hd; cases hd
      rw [hi] at hd
      rw [← hc1, hi] at hy
      simp at hd hy
      subst hd hy
      exact keep hx
theorem VsAt.nil (ok : Nat → Prop) (base : Nat) (w : World) : VsAt ok base w (.slice none 0 0) [] := ⟨[], rfl, by simp, World.ownsRow_nil _ _ _ _, by simp⟩
theorem VsAt.same {ok ok' : Nat → Prop} {base : Nat} {w w' : World} {u : Value} {vs : List PV} (h : VsAt ok base w u vs) (_hw : w.heap.size ≤ w'.heap.size) (hu : ∀ b, u.ownBlock = some b → w'.heap[b]? = w.heap[b]?) (hs : ∀ b, ok b → b < w.heap.size → w'.heap[b]? = w.heap[b]? ∧ ok' b) : VsAt ok' base w' u vs := by
  obtain ⟨css, h1, h2, h3, h4⟩ := h
  refine ⟨css, h1, h2, ?_, fun i c v hc hv => ?_⟩
  · obtain ⟨g1, g2⟩ := h3
    refine ⟨g1, ?_⟩
    rcases g2 with g2 | ⟨g, cap, cur, hv, hg, hh, r⟩
    · exact .inl g2
    · exact .inr ⟨g, cap, cur, hv, hg, by rw [hu g (by rw [hv]; rfl)]; exact hh, r⟩
  · have := (h4 i c v hc hv).mono (ok' := fun b => ok b ∧ b < w.heap.size) (fun b h1 h2 => ⟨h1, h2⟩)
    exact (this.same (w' := w') (fun b hb hlt => (hs b hb.1 hlt).1)).mono (fun b hb _ => (hs b hb.1 hb.2).2)
theorem owns_same {w w' : World} {base : Nat} {e : TypeId} {size n : Nat} {u : Value} {xs : List Value} (h : w.ownsRow base e size u n xs) (hu : ∀ b, u.ownBlock = some b → w'.heap[b]? = w.heap[b]?) : w'.ownsRow base e size u n xs := by
  obtain ⟨g1, g2⟩ := h
  refine ⟨g1, ?_⟩
  rcases g2 with g2 | ⟨g, cap, cur, hv, hg, hh, r⟩
  · exact .inl g2
  · exact .inr ⟨g, cap, cur, hv, hg, by rw [hu g (by rw [hv]; rfl)]; exact hh, r⟩

/-! A value that is being built in the box q. -/
/-- Blocks that nothing of the building touches. -/
def okB (base q : Nat) (uK uL : Value) (b : Nat) : Prop := base ≤ b ∧ b ≠ q ∧ uK.ownBlock ≠ some b ∧ uL.ownBlock ≠ some b
structure VB (base q : Nat) (w : World) (v : PV) (uB uK uL : Value) : Prop where
  blk : Blk w q 63 [.int .i64 v.kind, .int .i64 v.int, uB, strV v.text, uK, uL]
  hq : base ≤ q
  le : base ≤ w.heap.size
  ints : in64 v.kind ∧ in64 v.int ∧ v.text.length ≤ maxLen ∧ ∀ x ∈ v.keys, x.length ≤ maxLen
  bytes : ∃ ab cb, uB = .slice ab v.bytes.length cb ∧ v.bytes.length ≤ cb ∧ cb ≤ maxLen ∧ Row w ab (v.bytes.map b8) ∧ (0 < v.bytes.length → okB base q uK uL (hd ab).block)
  keys : KsAt base w uK v.keys
  kq : uK.ownBlock ≠ some q
  list : VsAt (okB base q uK uL) base w uL v.list
  lq : uL.ownBlock ≠ some q
  kl : ∀ b, uK.ownBlock = some b → uL.ownBlock ≠ some b
/-- What lies from block base on is as it was. -/
theorem VB.keep {base q : Nat} {w w' : World} {v : PV} {uB uK uL : Value} (h : VB base q w v uB uK uL) (hw : w.heap.size ≤ w'.heap.size) (hs : ∀ b, base ≤ b → b < w.heap.size → w'.heap[b]? = w.heap[b]?) : VB base q w' v uB uK uL := by
  obtain ⟨h1, h2, h3, h4, ⟨ab, cb, b1, b2, b3, b4, b5⟩, h6, h7, h8, h9, h10⟩ := h
  refine ⟨?_, h2, Nat.le_trans h3 hw, h4, ⟨ab, cb, b1, b2, b3, Row.keptP (ok := okB base q uK uL) b4 (by simpa using b5) (fun b hb hlt => hs b hb.1 hlt), b5⟩, owns_same h6 ?_, h7, h8.same hw ?_ (fun b hb hlt => ⟨hs b hb.1 hlt, hb⟩), h9, h10⟩
  · unfold Blk at *; rw [hs q h2 (Array.getElem?_eq_some_iff.1 h1).1]; exact h1
  · intro b hb
    obtain ⟨g1, g2⟩ := World.ownsRow.lt h6 b hb
    exact hs b g1 g2
  · intro b hb
    obtain ⟨css, _, _, hO, _⟩ := h8
    obtain ⟨g1, g2⟩ := World.ownsRow.lt hO b hb
    exact hs b g1 g2
/-- A key more. -/
theorem VB.addK {base q : Nat} {w w' : World} {k n : Int} {b t : List UInt8} {ks : List (List UInt8)} {l : List PV} {uB uK uL : Value} (h : VB base q w (.mk k n b t ks l) uB uK uL) {x : List UInt8} (hx : x.length ≤ maxLen) {a' : Option Addr} {c' m : Nat}
    (ho : w'.ownsRow base 9 1 (.slice a' m c') m (ks.map strV ++ [strV x])) (hm : m = ks.length + 1) (hg : Gro w w' uK (.slice a' m c')) :
    VB base q (w'.setCell ⟨q, 4, none⟩ (.slice a' m c')) (.mk k n b t (ks ++ [x]) l) uB (.slice a' m c') uL := by
  obtain ⟨h1, h2, h3, h4, ⟨ab, cb, b1, b2, b3, b4, b5⟩, h6, h7, h8, h9, h10⟩ := h
  subst hm
  have hqlt : q < w.heap.size := h1.lt
  have hlt6 := fun b hb => World.ownsRow.lt h6 b hb
  have hO8 : ∀ b, uL.ownBlock = some b → base ≤ b ∧ b < w.heap.size := by
    obtain ⟨css, _, _, hO, _⟩ := h8
    exact fun b hb => World.ownsRow.lt hO b hb
  have hB : Blk w' q 63 [.int .i64 k, .int .i64 n, uB, strV t, uK, uL] := (hg.blk h1 h7).1
  have hset : ∀ b, b ≠ q → (w'.setCell ⟨q, 4, none⟩ (.slice a' (ks.length + 1) c')).heap[b]? = w'.heap[b]? := fun b hb => Below.heap_setCell w' _ _ b hb
  have hold : ∀ b, b < w.heap.size → uK.ownBlock ≠ some b → b ≠ q → (w'.setCell ⟨q, 4, none⟩ (.slice a' (ks.length + 1) c')).heap[b]? = w.heap[b]? := fun b hb hk hq' => (hset b hq').trans (hg.gr.block b hb (fun e => hk e.symm))
  have hnew : ∀ b, (Value.slice a' (ks.length + 1) c').ownBlock = some b → b ≠ q := fun b hb e => by
    subst e
    rcases hg.own _ hb with h | h
    · exact h7 h
    · omega
  have hok : ∀ b, okB base q uK uL b → b < w.heap.size → okB base q (.slice a' (ks.length + 1) c') uL b := fun b ⟨o1, o2, o3, o4⟩ hlt => ⟨o1, o2, fun e => by
    rcases hg.own b e with h | h
    · exact o3 h
    · omega, o4⟩
  refine ⟨hB.set 4 _, h2, by simp; exact Nat.le_trans h3 hg.size, ⟨h4.1, h4.2.1, h4.2.2.1, fun y hy => ?_⟩, ⟨ab, cb, b1, b2, b3, Row.keptP b4 (ok := okB base q uK uL) (by simpa [PV.bytes] using b5) (fun b hb hlt => hold b hlt hb.2.2.1 hb.2.1), fun h0 => hok _ (b5 h0) (b4.block_lt (by simpa [PV.bytes] using h0))⟩, ?_, fun e => hnew q e rfl, h8.same (by simp; exact hg.size) (fun b hb => ?_) (fun b hb hlt => ⟨hold b hlt hb.2.2.1 hb.2.1, hok b hb hlt⟩), h9, fun b hb e => ?_⟩
  · rcases List.mem_append.1 hy with h | h
    · exact h4.2.2.2 y h
    · simp at h; subst h; exact hx
  · have := owns_same ho (w' := w'.setCell ⟨q, 4, none⟩ (.slice a' (ks.length + 1) c')) (fun b hb => hset b (hnew b hb))
    show World.ownsRow _ _ _ _ _ _ _
    simpa [PV.keys] using this
  · have hbl := hO8 b hb
    exact hold b hbl.2 (fun e => h10 b e hb) (fun e => h9 (e ▸ hb))
  · rcases hg.own b hb with h | h
    · exact h10 b h e
    · have := (hO8 b e).2; omega
/-- A value more. -/
theorem VB.addL {base q : Nat} {w w' : World} {k n : Int} {b t : List UInt8} {ks : List (List UInt8)} {l : List PV} {uB uK uL : Value} (h : VB base q w (.mk k n b t ks l) uB uK uL) {x : PV} {a' : Option Addr} {c' m : Nat}
    (ho : VsAt (okB base q uK (.slice a' m c')) base w' (.slice a' m c') (l ++ [x])) (hg : Gro w w' uL (.slice a' m c')) :
    VB base q (w'.setCell ⟨q, 5, none⟩ (.slice a' m c')) (.mk k n b t ks (l ++ [x])) uB uK (.slice a' m c') := by
  obtain ⟨h1, h2, h3, h4, ⟨ab, cb, b1, b2, b3, b4, b5⟩, h6, h7, h8, h9, h10⟩ := h
  have hqlt : q < w.heap.size := h1.lt
  have hlt6 := fun b hb => World.ownsRow.lt h6 b hb
  have hB : Blk w' q 63 [.int .i64 k, .int .i64 n, uB, strV t, uK, uL] := (hg.blk h1 h9).1
  have hset : ∀ b, b ≠ q → (w'.setCell ⟨q, 5, none⟩ (.slice a' m c')).heap[b]? = w'.heap[b]? := fun b hb => Below.heap_setCell w' _ _ b hb
  have hold : ∀ b, b < w.heap.size → uL.ownBlock ≠ some b → b ≠ q → (w'.setCell ⟨q, 5, none⟩ (.slice a' m c')).heap[b]? = w.heap[b]? := fun b hb hk hq' => (hset b hq').trans (hg.gr.block b hb (fun e => hk e.symm))
  have hnew : ∀ b, (Value.slice a' m c').ownBlock = some b → b ≠ q := fun b hb e => by
    subst e
    rcases hg.own _ hb with h | h
    · exact h9 h
    · omega
  have hok : ∀ b, okB base q uK uL b → b < w.heap.size → okB base q uK (.slice a' m c') b := fun b ⟨o1, o2, o3, o4⟩ hlt => ⟨o1, o2, o3, fun e => by
    rcases hg.own b e with h | h
    · exact o4 h
    · omega⟩
  refine ⟨hB.set 5 _, h2, by simp; exact Nat.le_trans h3 hg.size, h4, ⟨ab, cb, b1, b2, b3, Row.keptP b4 (ok := okB base q uK uL) (by simpa [PV.bytes] using b5) (fun b hb hlt => hold b hlt hb.2.2.2 hb.2.1), fun h0 => hok _ (b5 h0) (b4.block_lt (by simpa [PV.bytes] using h0))⟩, owns_same h6 (fun b hb => ?_), h7, ?_, fun e => hnew q e rfl, fun b hb e => ?_⟩
  · have hbl := hlt6 b hb
    exact hold b hbl.2 (fun e => h10 b hb e) (fun e => h7 (e ▸ hb))
  · refine ho.same (by simp) (fun b hb => hset b (hnew b hb)) (fun b hb _ => ⟨hset b hb.2.1, hb⟩)
  · rcases hg.own b e with h | h
    · exact h10 b hb h
    · have := (hlt6 b hb).2; omega
/-- What has been built. -/
theorem VB.done {base q : Nat} {w : World} {v : PV} {uB uK uL : Value} (h : VB base q w v uB uK uL) : VAtP (fun b => base ≤ b ∧ b ≠ q) w [.int .i64 v.kind, .int .i64 v.int, uB, strV v.text, uK, uL] v := by
  obtain ⟨h1, h2, h3, h4, ⟨ab, cb, rfl, b2, b3, b4, b5⟩, h6, h7, ⟨css, c1, c2, h8, c4⟩, h9, h10⟩ := h
  obtain ⟨ak, ck, rfl, k2, k3, k4, k5⟩ := owns_rowN h6 (by decide)
  obtain ⟨al, cl, rfl, l2, l3, l4, l5⟩ := owns_rowN h8 (by decide)
  cases v with
  | mk k n b t ks l =>
    refine .mk css h4.1 h4.2.1 b4 ⟨b2, b3⟩ h4.2.2.1 k4 ⟨k2, k3⟩ h4.2.2.2 l4 ⟨l2, l3⟩ c1 c2 (fun h0 => ⟨(b5 h0).1, (b5 h0).2.1⟩) (fun h0 => ?_) (fun h0 => ?_) (fun i c v hc hv => (c4 i c v hc hv).mono (fun b hb _ => ⟨hb.1, hb.2.1⟩))
    · obtain ⟨e1, e2, e3⟩ := k5 (by simpa [PV.keys] using h0)
      exact ⟨e2, fun e => h7 (by rw [e1, e])⟩
    · have hf : 0 < css.flatten.length := by
        rw [flatten_len c2, c1]
        exact Nat.mul_pos h0 (by decide)
      obtain ⟨e1, e2, e3⟩ := l5 hf
      exact ⟨e2, fun e => h9 (by rw [e1, e])⟩
end Go.Proofs.Ytakliplkabgmbaa
