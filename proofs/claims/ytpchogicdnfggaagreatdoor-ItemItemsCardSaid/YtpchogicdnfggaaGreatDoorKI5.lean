/- Joined: what one statement of this layer stands on, part 5 of 26; nothing is assumed. -/
import Derived.Test.YtpchogicdnfggaaGreatDoorRows
import Derived.ChangeOld
import Derived.Deep.RegionLaw
import Derived.Deep.Strs
import Derived.OpenShut
import Derived.ProofKit
import Derived.StillTailTactics
import Derived.Test.YtpchogicdnfggaaGreatDoorKI1
import Derived.Test.YtpchogicdnfggaaGreatDoorKI4
set_option maxRecDepth 20000
namespace Go.Proofs.YtpchogicdnfggaaGreatDoor
open Go.RowKit Go.Hd

/-- Six cells that hold a value, all of whose rows lie in blocks that are ok. -/
inductive VAtP (ok : Nat → Prop) (w : World) : List Value → PV → Prop
  | mk {k n : Int} {b t : List UInt8} {ks : List (List UInt8)} {l : List PV} {ab ak al : Option Addr} {cb ck cl : Nat} (css : List (List Value))
      (hk : in64 k) (hn : in64 n) (hb : Row w ab (b.map b8)) (hbc : b.length ≤ cb ∧ cb ≤ maxLen) (ht : t.length ≤ maxLen)
      (hks : Row w ak (ks.map strV)) (hkc : ks.length ≤ ck ∧ ck ≤ maxLen) (hkt : ∀ x ∈ ks, x.length ≤ maxLen) (hl : Row w al css.flatten) (hlc : l.length ≤ cl ∧ cl ≤ maxLen) (hcs : css.length = l.length) (h6 : ∀ c ∈ css, c.length = 6)
      (ob : 0 < b.length → ok (hd ab).block) (oks : 0 < ks.length → ok (hd ak).block) (ol : 0 < l.length → ok (hd al).block)
      (sub : ∀ (i : Nat) (c : List Value) (v : PV), css[i]? = some c → l[i]? = some v → VAtP ok w c v) :
      VAtP ok w [.int .i64 k, .int .i64 n, .slice ab b.length cb, strV t, .slice ak ks.length ck, .slice al l.length cl] (.mk k n b t ks l)
theorem VAtP.at {ok : Nat → Prop} {w : World} {cs : List Value} {v : PV} (h : VAtP ok w cs v) : VAt w cs v := by
  induction h with
  | mk css hk hn hb hbc ht hks hkc hkt hl hlc hcs h6 _ _ _ _ ih => exact .mk css hk hn hb hbc ht hks hkc hkt hl hlc hcs h6 ih
theorem Row.keptP {ok : Nat → Prop} {w w' : World} {a : Option Addr} {xs : List Value} (h : Row w a xs) (ho : 0 < xs.length → ok (hd a).block) (hs : ∀ b, ok b → b < w.heap.size → w'.heap[b]? = w.heap[b]?) : Row w' a xs := by
  refine ⟨h.1, fun i u hu => ?_⟩
  have hc := h.2 i u hu
  have hpos : 0 < xs.length := by
    rcases Nat.lt_or_ge i xs.length with h1 | h1
    · omega
    · rw [List.getElem?_eq_none h1] at hu; cases hu
  have hlt := h.block_lt hpos
  rw [World.cell?_of_block (w := w) (by rw [add_block]; exact hs _ (ho hpos) hlt)]
  exact hc
theorem flat_pos {α : Type} {s : Nat} {xs : List (List α)} (_ : ∀ x ∈ xs, x.length = s) (h : 0 < xs.flatten.length) : 0 < xs.length := by
  rcases Nat.eq_zero_or_pos xs.length with h0 | h0
  · rw [List.eq_nil_of_length_eq_zero h0] at h; simp at h
  · exact h0
theorem VAtP.same {ok : Nat → Prop} {w w' : World} {cs : List Value} {v : PV} (h : VAtP ok w cs v) (hs : ∀ b, ok b → b < w.heap.size → w'.heap[b]? = w.heap[b]?) : VAtP ok w' cs v := by
  induction h with
  | mk css hk hn hb hbc ht hks hkc hkt hl hlc hcs h6 ob oks ol _ ih =>
    exact .mk css hk hn (Row.keptP hb (by simpa using ob) hs) hbc ht (Row.keptP hks (by simpa using oks) hs) hkc hkt (Row.keptP hl (fun h => ol (by have := flat_pos h6 h; omega)) hs) hlc hcs h6 ob oks ol ih
theorem VAtP.mono {ok ok' : Nat → Prop} {w : World} {cs : List Value} {v : PV} (h : VAtP ok w cs v) (hk : ∀ b, ok b → b < w.heap.size → ok' b) : VAtP ok' w cs v := by
  induction h with
  | mk css hki hn hb hbc ht hks hkc hkt hl hlc hcs h6 ob oks ol _ ih =>
    refine .mk css hki hn hb hbc ht hks hkc hkt hl hlc hcs h6 (fun h0 => hk _ (ob h0) (hb.block_lt (by simpa using h0))) (fun h0 => hk _ (oks h0) (hks.block_lt (by simpa using h0))) (fun h0 => hk _ (ol h0) (hl.block_lt ?_)) ih
    rw [flatten_len h6]; omega
theorem VAtP.len {ok : Nat → Prop} {w : World} {cs : List Value} {v : PV} (h : VAtP ok w cs v) : cs.length = 6 := h.at.len
theorem VAtP.one {ok : Nat → Prop} {w : World} {cs : List Value} {v : PV} (h : VAtP ok w cs v) : ∀ u ∈ cs, u.oneCell' = true := h.at.one
theorem VAtP.grow {ok : Nat → Prop} {w w' : World} {cs : List Value} {v : PV} (h : VAtP ok w cs v) (hb : Below w.heap.size w w') : VAtP ok w' cs v := h.same (fun b _ hlt => hb.block b hlt)

/-! Slices of the call's own, of texts, of values. -/
theorem eV : Elem Tryz.prog 48 50 (.agg zV) 6 104 := ⟨by kernel_rfl, by kernel_rfl, rfl, by decide⟩
/-- A slice of values of the call's own; the values' rows lie in blocks that are ok. -/
def VsAt (ok : Nat → Prop) (base : Nat) (w : World) (u : Value) (vs : List PV) : Prop :=
  ∃ css : List (List Value), css.length = vs.length ∧ (∀ c ∈ css, c.length = 6) ∧ w.ownsRow base 50 6 u vs.length css.flatten ∧ ∀ (i : Nat) (c : List Value) (v : PV), css[i]? = some c → vs[i]? = some v → VAtP ok w c v
theorem flat_snoc {α : Type} (xs : List (List α)) (c : List α) : (xs ++ [c]).flatten = xs.flatten ++ c := by simp
theorem VsAt.app {ok ok' : Nat → Prop} {base : Nat} {w : World} {u : Value} {vs : List PV} {c : List Value} {x : PV} {ty : TypeId} (h : VsAt ok base w u vs) (hok : ∀ b, ok b → u.ownBlock ≠ some b) (hx : VAtP ok w c x) (hok' : ∀ b, ok b → b < w.heap.size → ok' b)
    (hn : vs.length ≤ 1000000000) (hb : base ≤ w.heap.size) :
    ∃ a' c' w', (Builtin.append_ #[48, 48] ty #[u, .slice (some ⟨w.heap.size, 0, none⟩) 1 1]).run Tryz.prog (w.alloc (.cells c.toArray 50)) = .ok (.slice a' (vs.length + 1) c') w' ∧ VsAt ok' base w' (.slice a' (vs.length + 1) c') (vs ++ [x]) ∧ Gro w w' u (.slice a' (vs.length + 1) c') := by
  obtain ⟨css, hc1, hc2, hown, hel⟩ := h
  have hl6 := hx.len
  have hsrc : Src Tryz.prog 6 48 (.slice (some ⟨w.heap.size, 0, none⟩) 1 1) 1 c (w.alloc (.cells c.toArray 50)) :=
    Src.ofRow eV.ht _ 1 1 c (by decide) (by rw [hl6]) (by simpa using (Blk.new w 50 c.toArray).row) hx.one
  obtain ⟨v', w', h1, h2, h3, h4⟩ := append_srcK (ty := ty) eV (hown.alloc _) hsrc (by unfold maxLen; omega) (by omega) (by simp; omega)
  obtain ⟨a', c', rfl, _⟩ := owns_rowN h2 (by decide)
  have hb0 : Below w.heap.size w (w.alloc (.cells c.toArray 50)) := (Below.refl _ _).alloc (Nat.le_refl _) _
  have hG : Gro w w' u (.slice a' (vs.length + 1) c') := (Gro.ofBelow hb0).trans ⟨h3, h4⟩
  have keep : ∀ {d : List Value} {y : PV}, VAtP ok w d y → VAtP ok' w' d y := fun hd =>
    (hd.mono (ok' := fun b => ok b ∧ b < w.heap.size) (fun b h1 h2 => ⟨h1, h2⟩)).same (w' := w') (fun b h1 h2 => hG.gr.block b h2 (fun e => hok b h1.1 e.symm)) |>.mono (fun b h1 _ => hok' b h1.1 h1.2)
  refine ⟨a', c', w', h1, ⟨css ++ [c], by simp [hc1], ?_, ?_, ?_⟩, hG⟩
  · intro d hd
    rcases List.mem_append.1 hd with h | h
    · exact hc2 d h
    · simp at h; subst h; exact hl6
  · rw [flat_snoc]; simpa using h2
  · intro i d y hd hy
    rcases Nat.lt_or_ge i css.length with h | h
    · rw [List.getElem?_append_left h] at hd
      rw [List.getElem?_append_left (by omega)] at hy
      exact keep (hel i d y hd hy)
    · rw [List.getElem?_append_right h] at hd
      rw [List.getElem?_append_right (by omega)] at hy
      have hi : i - css.length = 0 := by
        rcases Nat.eq_zero_or_pos (i - css.length) with h0 | h0
        · exact h0
        · rw [List.getElem?_eq_none (by simp; omega)] at hd; cases hd
      rw [hi] at hd
      rw [← hc1, hi] at hy
      simp at hd hy
      subst hd hy
      exact keep hx
theorem VsAt.nil (ok : Nat → Prop) (base : Nat) (w : World) : VsAt ok base w (.slice none 0 0) [] := ⟨[], rfl, by simp, World.ownsRow_nil _ _ _ _, by simp⟩
theorem VsAt.same {ok ok' : Nat → Prop} {base : Nat} {w w' : World} {u : Value} {vs : List PV} (h : VsAt ok base w u vs) (_hw : w.heap.size ≤ w'.heap.size) (hu : ∀ b, u.ownBlock = some b → w'.heap[b]? = w.heap[b]?) (hs : ∀ b, ok b → b < w.heap.size → w'.heap[b]? = w.heap[b]? ∧ ok' b) : VsAt ok' base w' u vs := by
  obtain ⟨css, h1, h2, h3, h4⟩ := h
  refine ⟨css, h1, h2, ?_, fun i c v hc hv => ?_⟩
  · obtain ⟨g1, g2⟩ := h3
    refine ⟨g1, ?_⟩
    rcases g2 with g2 | ⟨g, cap, cur, hv, hg, hh, r⟩
    · exact .inl g2
    · exact .inr ⟨g, cap, cur, hv, hg, by rw [hu g (by rw [hv]; rfl)]; exact hh, r⟩
  · have := (h4 i c v hc hv).mono (ok' := fun b => ok b ∧ b < w.heap.size) (fun b h1 h2 => ⟨h1, h2⟩)
    exact (this.same (w' := w') (fun b hb hlt => (hs b hb.1 hlt).1)).mono (fun b hb _ => (hs b hb.1 hb.2).2)
theorem owns_same {w w' : World} {base : Nat} {e : TypeId} {size n : Nat} {u : Value} {xs : List Value} (h : w.ownsRow base e size u n xs) (hu : ∀ b, u.ownBlock = some b → w'.heap[b]? = w.heap[b]?) : w'.ownsRow base e size u n xs := by
  obtain ⟨g1, g2⟩ := h
  refine ⟨g1, ?_⟩
  rcases g2 with g2 | ⟨g, cap, cur, hv, hg, hh, r⟩
  · exact .inl g2
  · exact .inr ⟨g, cap, cur, hv, hg, by rw [hu g (by rw [hv]; rfl)]; exact hh, r⟩

/-! A value that is being built in the box q. -/
/-- Blocks that nothing of the building touches. -/
def okB (base q : Nat) (uK uL : Value) (b : Nat) : Prop := base ≤ b ∧ b ≠ q ∧ uK.ownBlock ≠ some b ∧ uL.ownBlock ≠ some b
structure VB (base q : Nat) (w : World) (v : PV) (uB uK uL : Value) : Prop where
  blk : Blk w q 50 [.int .i64 v.kind, .int .i64 v.int, uB, strV v.text, uK, uL]
  hq : base ≤ q
  le : base ≤ w.heap.size
  ints : in64 v.kind ∧ in64 v.int ∧ v.text.length ≤ maxLen ∧ ∀ x ∈ v.keys, x.length ≤ maxLen
  bytes : ∃ ab cb, uB = .slice ab v.bytes.length cb ∧ v.bytes.length ≤ cb ∧ cb ≤ maxLen ∧ Row w ab (v.bytes.map b8) ∧ (0 < v.bytes.length → okB base q uK uL (hd ab).block)
  keys : KsAt base w uK v.keys
  kq : uK.ownBlock ≠ some q
  list : VsAt (okB base q uK uL) base w uL v.list
  lq : uL.ownBlock ≠ some q
  kl : ∀ b, uK.ownBlock = some b → uL.ownBlock ≠ some b
/-- What lies from block base on is as it was. -/
theorem VB.keep {base q : Nat} {w w' : World} {v : PV} {uB uK uL : Value} (h : VB base q w v uB uK uL) (hw : w.heap.size ≤ w'.heap.size) (hs : ∀ b, base ≤ b → b < w.heap.size → w'.heap[b]? = w.heap[b]?) : VB base q w' v uB uK uL := by
  obtain ⟨h1, h2, h3, h4, ⟨ab, cb, b1, b2, b3, b4, b5⟩, h6, h7, h8, h9, h10⟩ := h
  refine ⟨?_, h2, Nat.le_trans h3 hw, h4, ⟨ab, cb, b1, b2, b3, Row.keptP (ok := okB base q uK uL) b4 (by simpa using b5) (fun b hb hlt => hs b hb.1 hlt), b5⟩, owns_same h6 ?_, h7, h8.same hw ?_ (fun b hb hlt => ⟨hs b hb.1 hlt, hb⟩), h9, h10⟩
  · unfold Blk at *; rw [hs q h2 (Array.getElem?_eq_some_iff.1 h1).1]; exact h1
  · intro b hb
    obtain ⟨g1, g2⟩ := World.ownsRow.lt h6 b hb
    exact hs b g1 g2
  · intro b hb
    obtain ⟨css, _, _, hO, _⟩ := h8
    obtain ⟨g1, g2⟩ := World.ownsRow.lt hO b hb
    exact hs b g1 g2
/-- A key more. -/
theorem VB.addK {base q : Nat} {w w' : World} {k n : Int} {b t : List UInt8} {ks : List (List UInt8)} {l : List PV} {uB uK uL : Value} (h : VB base q w (.mk k n b t ks l) uB uK uL) {x : List UInt8} (hx : x.length ≤ maxLen) {a' : Option Addr} {c' m : Nat}
    (ho : w'.ownsRow base 9 1 (.slice a' m c') m (ks.map strV ++ [strV x])) (hm : m = ks.length + 1) (hg : Gro w w' uK (.slice a' m c')) :
    VB base q (w'.setCell ⟨q, 4, none⟩ (.slice a' m c')) (.mk k n b t (ks ++ [x]) l) uB (.slice a' m c') uL := by
  obtain ⟨h1, h2, h3, h4, ⟨ab, cb, b1, b2, b3, b4, b5⟩, h6, h7, h8, h9, h10⟩ := h
  subst hm
  have hqlt : q < w.heap.size := h1.lt
  have hlt6 := fun b hb => World.ownsRow.lt h6 b hb
  have hO8 : ∀ b, uL.ownBlock = some b → base ≤ b ∧ b < w.heap.size := by
    obtain ⟨css, _, _, hO, _⟩ := h8
    exact fun b hb => World.ownsRow.lt hO b hb
  have hB : Blk w' q 50 [.int .i64 k, .int .i64 n, uB, strV t, uK, uL] := (hg.blk h1 h7).1
  have hset : ∀ b, b ≠ q → (w'.setCell ⟨q, 4, none⟩ (.slice a' (ks.length + 1) c')).heap[b]? = w'.heap[b]? := fun b hb => Below.heap_setCell w' _ _ b hb
  have hold : ∀ b, b < w.heap.size → uK.ownBlock ≠ some b → b ≠ q → (w'.setCell ⟨q, 4, none⟩ (.slice a' (ks.length + 1) c')).heap[b]? = w.heap[b]? := fun b hb hk hq' => (hset b hq').trans (hg.gr.block b hb (fun e => hk e.symm))
  have hnew : ∀ b, (Value.slice a' (ks.length + 1) c').ownBlock = some b → b ≠ q := fun b hb e => by
    subst e
    rcases hg.own _ hb with h | h
    · exact h7 h
    · omega
  have hok : ∀ b, okB base q uK uL b → b < w.heap.size → okB base q (.slice a' (ks.length + 1) c') uL b := fun b ⟨o1, o2, o3, o4⟩ hlt => ⟨o1, o2, fun e => by
    rcases hg.own b e with h | h
    · exact o3 h
    · omega, o4⟩
  refine ⟨hB.set 4 _, h2, by simp; exact Nat.le_trans h3 hg.size, ⟨h4.1, h4.2.1, h4.2.2.1, fun y hy => ?_⟩, ⟨ab, cb, b1, b2, b3, Row.keptP b4 (ok := okB base q uK uL) (by simpa [PV.bytes] using b5) (fun b hb hlt => hold b hlt hb.2.2.1 hb.2.1), fun h0 => hok _ (b5 h0) (b4.block_lt (by simpa [PV.bytes] using h0))⟩, ?_, fun e => hnew q e rfl, h8.same (by simp; exact hg.size) (fun b hb => ?_) (fun b hb hlt => ⟨hold b hlt hb.2.2.1 hb.2.1, hok b hb hlt⟩), h9, fun b hb e => ?_⟩
  · rcases List.mem_append.1 hy with h | h
    · exact h4.2.2.2 y h
    · simp at h; subst h; exact hx
  · have := owns_same ho (w' := w'.setCell ⟨q, 4, none⟩ (.slice a' (ks.length + 1) c')) (fun b hb => hset b (hnew b hb))
    show World.ownsRow _ _ _ _ _ _ _
    simpa [PV.keys] using this
  · have hbl := hO8 b hb
    exact hold b hbl.2 (fun e => h10 b e hb) (fun e => h9 (e ▸ hb))
  · rcases hg.own b hb with h | h
    · exact h10 b h e
    · have := (hO8 b e).2; omega
/-- A value more. -/
theorem VB.addL {base q : Nat} {w w' : World} {k n : Int} {b t : List UInt8} {ks : List (List UInt8)} {l : List PV} {uB uK uL : Value} (h : VB base q w (.mk k n b t ks l) uB uK uL) {x : PV} {a' : Option Addr} {c' m : Nat}
    (ho : VsAt (okB base q uK (.slice a' m c')) base w' (.slice a' m c') (l ++ [x])) (hg : Gro w w' uL (.slice a' m c')) :
    VB base q (w'.setCell ⟨q, 5, none⟩ (.slice a' m c')) (.mk k n b t ks (l ++ [x])) uB uK (.slice a' m c') := by
  obtain ⟨h1, h2, h3, h4, ⟨ab, cb, b1, b2, b3, b4, b5⟩, h6, h7, h8, h9, h10⟩ := h
  have hqlt : q < w.heap.size := h1.lt
  have hlt6 := fun b hb => World.ownsRow.lt h6 b hb
  have hB : Blk w' q 50 [.int .i64 k, .int .i64 n, uB, strV t, uK, uL] := (hg.blk h1 h9).1
  have hset : ∀ b, b ≠ q → (w'.setCell ⟨q, 5, none⟩ (.slice a' m c')).heap[b]? = w'.heap[b]? := fun b hb => Below.heap_setCell w' _ _ b hb
  have hold : ∀ b, b < w.heap.size → uL.ownBlock ≠ some b → b ≠ q → (w'.setCell ⟨q, 5, none⟩ (.slice a' m c')).heap[b]? = w.heap[b]? := fun b hb hk hq' => (hset b hq').trans (hg.gr.block b hb (fun e => hk e.symm))
  have hnew : ∀ b, (Value.slice a' m c').ownBlock = some b → b ≠ q := fun b hb e => by
    subst e
    rcases hg.own _ hb with h | h
    · exact h9 h
    · omega
  have hok : ∀ b, okB base q uK uL b → b < w.heap.size → okB base q uK (.slice a' m c') b := fun b ⟨o1, o2, o3, o4⟩ hlt => ⟨o1, o2, o3, fun e => by
    rcases hg.own b e with h | h
    · exact o4 h
    · omega⟩
  refine ⟨hB.set 5 _, h2, by simp; exact Nat.le_trans h3 hg.size, h4, ⟨ab, cb, b1, b2, b3, Row.keptP b4 (ok := okB base q uK uL) (by simpa [PV.bytes] using b5) (fun b hb hlt => hold b hlt hb.2.2.2 hb.2.1), fun h0 => hok _ (b5 h0) (b4.block_lt (by simpa [PV.bytes] using h0))⟩, owns_same h6 (fun b hb => ?_), h7, ?_, fun e => hnew q e rfl, fun b hb e => ?_⟩
  · have hbl := hlt6 b hb
    exact hold b hbl.2 (fun e => h10 b hb e) (fun e => h7 (e ▸ hb))
  · refine ho.same (by simp) (fun b hb => hset b (hnew b hb)) (fun b hb _ => ⟨hset b hb.2.1, hb⟩)
  · rcases hg.own b e with h | h
    · exact h10 b hb h
    · have := (hlt6 b hb).2; omega
/-- What has been built. -/
theorem VB.done {base q : Nat} {w : World} {v : PV} {uB uK uL : Value} (h : VB base q w v uB uK uL) : VAtP (fun b => base ≤ b ∧ b ≠ q) w [.int .i64 v.kind, .int .i64 v.int, uB, strV v.text, uK, uL] v := by
  obtain ⟨h1, h2, h3, h4, ⟨ab, cb, rfl, b2, b3, b4, b5⟩, h6, h7, ⟨css, c1, c2, h8, c4⟩, h9, h10⟩ := h
  obtain ⟨ak, ck, rfl, k2, k3, k4, k5⟩ := owns_rowN h6 (by decide)
  obtain ⟨al, cl, rfl, l2, l3, l4, l5⟩ := owns_rowN h8 (by decide)
  cases v with
  | mk k n b t ks l =>
    refine .mk css h4.1 h4.2.1 b4 ⟨b2, b3⟩ h4.2.2.1 k4 ⟨k2, k3⟩ h4.2.2.2 l4 ⟨l2, l3⟩ c1 c2 (fun h0 => ⟨(b5 h0).1, (b5 h0).2.1⟩) (fun h0 => ?_) (fun h0 => ?_) (fun i c v hc hv => (c4 i c v hc hv).mono (fun b hb _ => ⟨hb.1, hb.2.1⟩))
    · obtain ⟨e1, e2, e3⟩ := k5 (by simpa [PV.keys] using h0)
      exact ⟨e2, fun e => h7 (by rw [e1, e])⟩
    · have hf : 0 < css.flatten.length := by
        rw [flatten_len c2, c1]
        exact Nat.mul_pos h0 (by decide)
      obtain ⟨e1, e2, e3⟩ := l5 hf
      exact ⟨e2, fun e => h9 (by rw [e1, e])⟩
end Go.Proofs.YtpchogicdnfggaaGreatDoor
set_option maxRecDepth 20000
namespace Go.Proofs.YtpchogicdnfggaaGreatDoor
open Go.RowKit Go.Hd

theorem cut_any (a : Option Addr) (k c : Nat) (n : Int) (w : World) (n0 : 0 ≤ n) (hk : k ≤ c) :
    Calls Tryz.prog 4 #[.slice a k c, .int .i64 n] w fun e w' => e = .returned (.slice a (min k n.toNat) c) ∧ w = w' := by
  by_cases h : n < k
  · have H : Hid (min k n.toNat = n.toNat) := by show _ = _; omega
    go_enter Tryz.func4, Tryz.ntmps4
    go_wp2
    go_ret
    exact ⟨ret_eq (slice_len H.out.symm), rfl⟩
  · have H : Hid (min k n.toNat = k) := by show _ = _; omega
    have h' : (k : Int) ≤ n := by omega
    clear h
    go_enter Tryz.func4, Tryz.ntmps4
    go_wp2
    go_ret
    exact ⟨ret_eq (v := .slice a k c) (slice_len H.out.symm), rfl⟩
end Go.Proofs.YtpchogicdnfggaaGreatDoor
set_option maxRecDepth 20000
namespace Go.Proofs.YtpchogicdnfggaaGreatDoor
open Go.RowKit Go.Hd
attribute [local go_sem ↓] h_ldV h_stV h_alV
attribute [local go_sem] r_ldV r_stV r_alV

section
variable (ρ : Operand → Value) (dst : Option Tmp) (ty : TypeId) (pos : String) (after : Array Edge) (guard : Option (Nat × Bool))
theorem h_bsV (n : Nat) (parts : Array (Nat × Operand)) : execOp ρ { dst, op := .buildSlice 48 n parts, type := ty, pos, after, guard } = (do pure (.value (← bsOp 48 n (parts.map fun (i, x) => (i, ρ x))))) := rfl
end
theorem r_bsV {w : World} {cs : Array Value} (hc : cs.size = 6) : (bsOp 48 1 #[(0, .agg cs)]).run Tryz.prog w = .ok (.slice (some ⟨w.heap.size, 0, none⟩) 1 1) (w.alloc (.cells cs 50)) :=
  bsOp_one (z := .agg zV) (s := 6) Tryz.underlying48 (by kernel_rfl) (by decide) (by decide) rfl hc
attribute [local go_sem ↓] h_bsV
attribute [local go_sem] r_bsV
/-- The state of its walk. -/
structure FewI (w : World) (p q : Nat) (box : List Value) (m : Nat) (wr : World) (v : PV) (uB uK uL : Value) : Prop where
  arg : Blk wr w.heap.size 50 box
  res : Blk wr (w.heap.size + 1) 50 zV.toList
  left : Blk wr p 3 [.int .i64 (m : Int)]
  gr : w.grownBy wr (some p)
  vb : VB (w.heap.size + 2) q wr v uB uK uL
theorem oneC6 (k n : Int) (a1 a2 a3 : Option Addr) (n1 n2 n3 c1 c2 c3 : Nat) (s : ByteArray) : OneC #[.int .i64 k, .int .i64 n, .slice a1 n1 c1, .string s, .slice a2 n2 c2, .slice a3 n3 c3] := by
  refine all_oneCell_toArray (cs := [.int .i64 k, .int .i64 n, .slice a1 n1 c1, .string s, .slice a2 n2 c2, .slice a3 n3 c3]) ?_
  intro u hu
  simp only [List.mem_cons, List.not_mem_nil, or_false] at hu
  rcases hu with rfl | rfl | rfl | rfl | rfl | rfl <;> rfl
theorem st_row {w : World} {q : Nat} {T : TypeId} {old : List Value} (h : Blk w q T old) (ho : old.length = 6) : ∀ cs : Array Value, cs.size = 6 → OneC cs → (stoOp 50 (.pointer (some ⟨q, 0, none⟩)) (.agg cs)).run Tryz.prog w = .ok () (w.setRow q cs) := by
  intro cs h6 h1
  unfold stoOp
  simp only [Instr.storeAt, Instr.sureAddr, Sem.run_bind, Sem.run_pure, Result.andThen]
  rw [run_storeVar_row w q T 50 old.toArray cs h (by rw [h6]; exact sizeV) (by simp [ho, h6]) h1]
theorem setRow_blk {w : World} {q : Nat} {T : TypeId} {old : List Value} (h : Blk w q T old) (cs : List Value) : Blk (w.setRow q cs.toArray) q T cs := by
  have := setRow_heap w q old.toArray cs.toArray T (0, 0) h
  simpa [Blk] using this
theorem setRow_gr (w : World) (q : Nat) (cs : Array Value) : w.grownBy (w.setRow q cs) (some q) := ⟨rfl, rfl, rfl, by simp, fun k _ hk => setRow_other w q k _ (fun e => hk (by rw [e]))⟩
theorem VB.new {base q : Nat} {w : World} {k n : Int} {b t : List UInt8} {ab : Option Addr} {cb : Nat} (hB : Blk w q 50 [.int .i64 k, .int .i64 n, .slice ab b.length cb, .string (str t), .slice none 0 0, .slice none 0 0]) (hq : base ≤ q) (hle : base ≤ w.heap.size) (hk : in64 k) (hn : in64 n) (ht : t.length ≤ maxLen)
    (hc : b.length ≤ cb ∧ cb ≤ maxLen) (hr : Row w ab (b.map b8)) (ho : 0 < b.length → base ≤ (hd ab).block ∧ (hd ab).block ≠ q) : VB base q w (.mk k n b t [] []) (.slice ab b.length cb) (.slice none 0 0) (.slice none 0 0) :=
  ⟨hB, hq, hle, ⟨hk, hn, ht, by simp [PV.keys]⟩, ⟨ab, cb, rfl, hc.1, hc.2, hr, fun h => ⟨(ho h).1, (ho h).2, by simp [Value.ownBlock], by simp [Value.ownBlock]⟩⟩, World.ownsRow_nil _ _ _ _, by simp [Value.ownBlock], VsAt.nil _ _ _, by simp [Value.ownBlock], by simp [Value.ownBlock]⟩

theorem fresh_open {w w' : World} {v : Value} {l : List UInt8} (h : Fresh w w' v l) : ∃ a c, v = .slice a l.length c ∧ Row w' a (l.map b8) ∧ Below w.heap.size w w' ∧ c ≤ maxLen ∧ l.length ≤ c := by
  obtain ⟨h1, h2⟩ := h
  obtain ⟨a, c, rfl, h3, h4, h5, _⟩ := Own.at (E := 5) h1
  exact ⟨a, c, rfl, h5, h2, h4, h3⟩
theorem fresh_at {w w' : World} {a : Option Addr} {n c : Nat} {l : List UInt8} (h : Fresh w w' (.slice a n c) l) (h0 : 0 < l.length) : w.heap.size ≤ (hd a).block ∧ (hd a).block < w'.heap.size := by
  obtain ⟨h1, h2⟩ := h
  obtain ⟨a', c', he, h3, h4, h5, h6⟩ := Own.at (E := 5) h1
  simp only [Value.slice.injEq] at he
  obtain ⟨rfl, _, _⟩ := he
  exact h6 h0
theorem VsAt.mono {ok ok' : Nat → Prop} {base : Nat} {w : World} {u : Value} {vs : List PV} (h : VsAt ok base w u vs) (hk : ∀ b, ok b → ok' b) : VsAt ok' base w u vs := by
  obtain ⟨css, h1, h2, h3, h4⟩ := h
  exact ⟨css, h1, h2, h3, fun i c v hc hv => (h4 i c v hc hv).mono (fun b hb _ => hk b hb)⟩
theorem VB.kown {base q : Nat} {w : World} {v : PV} {uB uK uL : Value} (h : VB base q w v uB uK uL) : (∀ b, uK.ownBlock = some b → base ≤ b ∧ b < w.heap.size) ∧ (∀ b, uL.ownBlock = some b → base ≤ b ∧ b < w.heap.size) := by
  refine ⟨fun b hb => World.ownsRow.lt h.keys b hb, ?_⟩
  obtain ⟨css, _, _, hO, _⟩ := h.list
  exact fun b hb => World.ownsRow.lt hO b hb
/-- A key more. -/
theorem VB.stepK {base q : Nat} {w : World} {k n : Int} {b t : List UInt8} {ks : List (List UInt8)} {l : List PV} {uB uK uL : Value} {ty : TypeId} (h : VB base q w (.mk k n b t ks l) uB uK uL) {x : List UInt8} (hx : x.length ≤ maxLen) (hn : ks.length ≤ 1000000000) :
    ∃ a' c' w', (Builtin.append_ #[47, 47] ty #[uK, .slice (some ⟨w.heap.size, 0, none⟩) 1 1]).run Tryz.prog (w.alloc (.cells #[.string (str x)] 9)) = .ok (.slice a' (ks.length + 1) c') w' ∧ w'.cell? ⟨q, 4, none⟩ = some uK ∧ w'.frozen? ⟨q, 4, none⟩ = false ∧
      VB base q (w'.setCell ⟨q, 4, none⟩ (.slice a' (ks.length + 1) c')) (.mk k n b t (ks ++ [x]) l) uB (.slice a' (ks.length + 1) c') uL ∧ Gro w w' uK (.slice a' (ks.length + 1) c') ∧ w.heap.size ≤ w'.heap.size := by
  obtain ⟨a', c', w', h1, h2, h3⟩ := own_app1 (ty := ty) eS h.keys (.string (str x)) rfl (by unfold maxLen; simp [PV.keys]; omega) (by simp [PV.keys]; omega) h.le
  have hB := (h3.blk h.blk h.kq).1
  exact ⟨a', c', w', h1, hB.cell rfl, hB.free 4, h.addK hx h2 rfl h3, h3, h3.size⟩
/-- A value more. -/
theorem VB.stepL {base q : Nat} {w : World} {k n : Int} {b t : List UInt8} {ks : List (List UInt8)} {l : List PV} {uB uK uL : Value} {ty : TypeId} (h : VB base q w (.mk k n b t ks l) uB uK uL) {x : PV} {c : List Value} (hx : VAtP (okB base q uK uL) w c x) (hn : l.length ≤ 1000000000) :
    ∃ a' c' w', (Builtin.append_ #[48, 48] ty #[uL, .slice (some ⟨w.heap.size, 0, none⟩) 1 1]).run Tryz.prog (w.alloc (.cells c.toArray 50)) = .ok (.slice a' (l.length + 1) c') w' ∧ w'.cell? ⟨q, 5, none⟩ = some uL ∧ w'.frozen? ⟨q, 5, none⟩ = false ∧
      VB base q (w'.setCell ⟨q, 5, none⟩ (.slice a' (l.length + 1) c')) (.mk k n b t ks (l ++ [x])) uB uK (.slice a' (l.length + 1) c') ∧ Gro w w' uL (.slice a' (l.length + 1) c') ∧ w.heap.size ≤ w'.heap.size := by
  obtain ⟨a', c', w', h1, h2, h3⟩ := VsAt.app (ty := ty) (ok' := fun z => okB base q uK uL z ∧ z < w.heap.size) h.list (fun z hz => hz.2.2.2) hx (fun z hz hlt => ⟨hz, hlt⟩) hn h.le
  have hB := (h3.blk h.blk h.lq).1
  have h2' := h2.mono (ok' := okB base q uK (.slice a' (l.length + 1) c')) (fun z hz => ⟨hz.1.1, hz.1.2.1, hz.1.2.2.1, fun e => by
    rcases h3.own z e with h4 | h4
    · exact hz.1.2.2.2 h4
    · have := hz.2; omega⟩)
  exact ⟨a', c', w', h1, hB.cell rfl, hB.free 5, h.addL h2' h3, h3, h3.size⟩
theorem fresh_okB {base q z : Nat} {w : World} {v : PV} {uB uK uL : Value} (h : VB base q w v uB uK uL) (hz : w.heap.size ≤ z) : okB base q uK uL z := by
  have h1 := h.kown
  have h2 := h.blk.lt
  have h3 := h.le
  exact ⟨by omega, by omega, fun e => by have := (h1.1 z e).2; omega, fun e => by have := (h1.2 z e).2; omega⟩
end Go.Proofs.YtpchogicdnfggaaGreatDoor
set_option maxRecDepth 20000
namespace Go.Proofs.YtpchogicdnfggaaGreatDoor
open Go.RowKit Go.Hd
attribute [local go_sem ↓] h_ldV h_stV h_alV
attribute [local go_sem] r_ldV r_stV r_alV

/-! Values compared. -/
mutual
def sameV : PV → PV → Bool
  | .mk k n b t ks l, .mk k' n' b' t' ks' l' => k == k' && (k != 3 || n == n') && (k != 4 || b == b') && (k != 5 || t == t') && (k != 7 || ks == ks') && ((k != 6 && k != 7) || sameL l l')
def sameL : List PV → List PV → Bool
  | [], [] => true
  | x :: l, y :: m => sameV x y && sameL l m
  | _, _ => false
end
theorem sameL_len : ∀ {l m : List PV}, sameL l m = true → l.length = m.length
  | [], [], _ => rfl
  | [], y :: m, h => by simp [sameL] at h
  | x :: l, [], h => by simp [sameL] at h
  | x :: l, y :: m, h => by
    simp only [sameL, Bool.and_eq_true] at h
    rw [List.length_cons, List.length_cons, sameL_len h.2]
theorem sameL_take : ∀ {l m : List PV} (j : Nat) (h1 : j < l.length) (h2 : j < m.length), sameL (l.take (j + 1)) (m.take (j + 1)) = (sameL (l.take j) (m.take j) && sameV l[j] m[j])
  | [], _, j, h1, _ => by simp at h1
  | _ :: _, [], j, _, h2 => by simp at h2
  | x :: l, y :: m, 0, _, _ => by simp [sameL]
  | x :: l, y :: m, j + 1, h1, h2 => by
    have := sameL_take (l := l) (m := m) j (by simpa using h1) (by simpa using h2)
    simp only [List.take_succ_cons, sameL, List.getElem_cons_succ, this, Bool.and_assoc]
theorem sameL_stop {l m : List PV} {j : Nat} (h1 : j < l.length) (h2 : j < m.length) (h : sameV l[j] m[j] = false) : sameL l m = false := by
  induction l generalizing m j with
  | nil => simp at h1
  | cons x l ih =>
    cases m with
    | nil => simp at h2
    | cons y m =>
      cases j with
      | zero => simp at h; simp [sameL, h]
      | succ j => simp only [List.getElem_cons_succ] at h; simp [sameL, ih (by simpa using h1) (by simpa using h2) h]
theorem sameL_diff {l m : List PV} (h : l.length ≠ m.length) : sameL l m = false := by
  rcases Bool.eq_false_or_eq_true (sameL l m) with h2 | h2
  · exact absurd (sameL_len h2) h
  · exact h2
end Go.Proofs.YtpchogicdnfggaaGreatDoor
set_option maxRecDepth 20000
namespace Go.Proofs.YtpchogicdnfggaaGreatDoor
open Go.RowKit Go.Hd
attribute [local go_sem ↓] h_ldV h_stV h_alV
attribute [local go_sem] r_ldV r_stV r_alV

theorem sameV_mk (k n k' n' : Int) (b t b' t' : List UInt8) (ks ks' : List (List UInt8)) (l l' : List PV) : sameV (.mk k n b t ks l) (.mk k' n' b' t' ks' l') = (k == k' && (k != 3 || n == n') && (k != 4 || b == b') && (k != 5 || t == t') && (k != 7 || ks == ks') && ((k != 6 && k != 7) || sameL l l')) := by
  simp only [sameV]
theorem keys_stop {ks ks' : List (List UInt8)} {j : Nat} (h1 : j < ks.length) (h2 : j < ks'.length) (h : ks[j] ≠ ks'[j]) : ks ≠ ks' := by
  rintro rfl; exact h rfl
set_option maxHeartbeats 4000000 in
theorem rsame_any {w0 : World} {cs : List Value} {v : PV} (h : VAt w0 cs v) : ∀ (cs2 : List Value) (v2 : PV) (w : World), VAt w0 cs2 v2 → Below w0.heap.size w0 w →
    Calls Tryz.prog 35 #[.agg cs.toArray, .agg cs2.toArray] w fun e w' => e = .returned (.bool (sameV v v2)) ∧ Below w.heap.size w w' := by
  induction h with
  | @mk k n b t ks l ab ak al cb ck cl css hk hn hb hbc ht hks hkc hkt hl hlc hcs h6 sub ih =>
  intro cs2 v2 w h2 hbw
  cases h2 with
  | @mk k' n' b' t' ks' l' ab' ak' al' cb' ck' cl' css' hk' hn' hb' hbc' ht' hks' hkc' hkt' hl' hlc' hcs' h6' sub' =>
  have hsz := hbw.size
  obtain ⟨box, hbox⟩ : ∃ box : List Value, box = [.int .i64 k, .int .i64 n, .slice ab b.length cb, strV t, .slice ak ks.length ck, .slice al l.length cl] := ⟨_, rfl⟩
  obtain ⟨box', hbox'⟩ : ∃ box : List Value, box = [.int .i64 k', .int .i64 n', .slice ab' b'.length cb', strV t', .slice ak' ks'.length ck', .slice al' l'.length cl'] := ⟨_, rfl⟩
  have hb0 : Below w.heap.size w ((w.alloc (.cells (List.toArray (α := Value) box) 50)).alloc (.cells (List.toArray (α := Value) box') 50)) := ((Below.refl _ _).alloc (Nat.le_refl _) _).alloc (by simp) _
  have A0 : Blk ((w.alloc (.cells (List.toArray (α := Value) box) 50)).alloc (.cells (List.toArray (α := Value) box') 50)) w.heap.size 50 box := by simpa using (Blk.new w 50 box.toArray).alloc (.cells box'.toArray 50)
  have R0 : Blk ((w.alloc (.cells (List.toArray (α := Value) box) 50)).alloc (.cells (List.toArray (α := Value) box') 50)) (w.heap.size + 1) 50 box' := by
    have := Blk.new (w.alloc (.cells (List.toArray (α := Value) box) 50)) 50 box'.toArray
    simpa using this
  rw [← hbox, ← hbox']
  have HB := Lib.hid hbox
  have HB' := Lib.hid hbox'
  clear hbox hbox'
  have HSV := Lib.hid (sameV_mk k n k' n' b t b' t' ks ks' l l')
  go_enter Tryz.func35, Tryz.ntmps35
  go_upto_region 1 with (fail)
  generalize (w.alloc (.cells (List.toArray (α := Value) box) 50)).alloc (.cells (List.toArray (α := Value) box') 50) = W at *
  have a0 : W.cell? ⟨w.heap.size, 0, none⟩ = some (.int .i64 k) := A0.cell (by rw [HB.out]; rfl)
  have a1 : W.cell? ⟨w.heap.size, 1, none⟩ = some (.int .i64 n) := A0.cell (by rw [HB.out]; rfl)
  have a2 : W.cell? ⟨w.heap.size, 2, none⟩ = some (.slice ab b.length cb) := A0.cell (by rw [HB.out]; rfl)
  have a3 : W.cell? ⟨w.heap.size, 3, none⟩ = some (.string (str t)) := A0.cell (by rw [HB.out]; rfl)
  have r0 : W.cell? ⟨w.heap.size + 1, 0, none⟩ = some (.int .i64 k') := R0.cell (by rw [HB'.out]; rfl)
  have r1 : W.cell? ⟨w.heap.size + 1, 1, none⟩ = some (.int .i64 n') := R0.cell (by rw [HB'.out]; rfl)
  have r2 : W.cell? ⟨w.heap.size + 1, 2, none⟩ = some (.slice ab' b'.length cb') := R0.cell (by rw [HB'.out]; rfl)
  have r3 : W.cell? ⟨w.heap.size + 1, 3, none⟩ = some (.string (str t')) := R0.cell (by rw [HB'.out]; rfl)
  by_cases hkk : k = k'
  case neg =>
    have t0 : (k != k') = true := by simpa using hkk
    have HF : Hid (sameV (.mk k n b t ks l) (.mk k' n' b' t' ks' l') = false) := by
      show _ = _
      rw [HSV.out, beq_eq_false_iff_ne.2 hkk]; rfl
    clear hkk
    go_wp2
    go_ret
    exact ⟨by rw [HF.out]; rfl, hb0⟩
  case pos =>
  have HKK := Lib.hid hkk
  have t0 : (k != k') = false := by simpa using hkk
  clear hkk
  go_upto_region 3 with (fail)
  go_cut [46] (fun u wx => (∃ bad : Bool, u = .bool bad ∧ (bad = true → sameV (.mk k n b t ks l) (.mk k' n' b' t' ks' l') = false) ∧ (bad = false → (k = 3 → n = n') ∧ (k = 4 → b = b') ∧ (k = 5 → t = t'))) ∧ Blk wx w.heap.size 50 box ∧ Blk wx (w.heap.size + 1) 50 box' ∧ Below w.heap.size w wx)
  case first =>
    by_cases h3 : k = 3
    · subst h3
      by_cases hnn : n = n'
      · have t1 : (n != n') = false := by simpa using hnn
        have HN := Lib.hid hnn
        clear hnn
        go_wp2
        go_meet
        exact ⟨⟨false, rfl, (by simp), fun _ => ⟨fun _ => HN.out, fun h => absurd h (by decide), fun h => absurd h (by decide)⟩⟩, A0, R0, hb0⟩
      · have t1 : (n != n') = true := by simpa using hnn
        have HF : Hid (sameV (.mk 3 n b t ks l) (.mk k' n' b' t' ks' l') = false) := by
          show _ = _
          rw [HSV.out, beq_eq_false_iff_ne.2 hnn]; simp
        clear hnn
        go_wp2
        go_meet
        exact ⟨⟨true, rfl, fun _ => HF.out, (by simp)⟩, A0, R0, hb0⟩
    have t3 : (k == 3) = false := beq_eq_false_iff_ne.2 h3
    by_cases h4 : k = 4
    · subst h4
      clear h3
      have hrb := hb.below (hbw.trans (hb0.mono hsz))
      have hrb' := hb'.below (hbw.trans (hb0.mono hsz))
      go_wp2_with fail
      refine (same_any rfl rfl hrb hrb' (Nat.le_trans hbc.1 hbc.2)).mono ?_
      rintro e w1 ⟨rfl, nd, rfl⟩
      by_cases hbb : b = b'
      · have HN := Lib.hid hbb
        rw [show (b == b') = true by simpa using hbb]
        clear hbb
        go_wp2
        go_meet
        exact ⟨⟨false, rfl, (by simp), fun _ => ⟨fun h => absurd h (by decide), fun _ => HN.out, fun h => absurd h (by decide)⟩⟩, A0.drewN _, R0.drewN _, Below.drewN hb0 _⟩
      · have HF : Hid (sameV (.mk 4 n b t ks l) (.mk k' n' b' t' ks' l') = false) := by
          show _ = _
          rw [HSV.out, beq_eq_false_iff_ne.2 hbb]; simp
        rw [show (b == b') = false by simpa using hbb]
        clear hbb
        go_wp2
        go_meet
        exact ⟨⟨true, rfl, fun _ => HF.out, (by simp)⟩, A0.drewN _, R0.drewN _, Below.drewN hb0 _⟩
    have t4 : (k == 4) = false := beq_eq_false_iff_ne.2 h4
    by_cases h5 : k = 5
    · subst h5
      clear h3 h4
      by_cases htt : t = t'
      · have t1 : ((str t).toList == (str t').toList) = true := by rw [str_beq]; simpa using htt
        have HN := Lib.hid htt
        clear htt
        go_wp2
        go_meet
        exact ⟨⟨false, rfl, (by simp), fun _ => ⟨fun h => absurd h (by decide), fun h => absurd h (by decide), fun _ => HN.out⟩⟩, A0, R0, hb0⟩
      · have t1 : ((str t).toList == (str t').toList) = false := by rw [str_beq]; simpa using htt
        have HF : Hid (sameV (.mk 5 n b t ks l) (.mk k' n' b' t' ks' l') = false) := by
          show _ = _
          rw [HSV.out, beq_eq_false_iff_ne.2 htt]; simp
        clear htt
        go_wp2
        go_meet
        exact ⟨⟨true, rfl, fun _ => HF.out, (by simp)⟩, A0, R0, hb0⟩
    have t5 : (k == 5) = false := beq_eq_false_iff_ne.2 h5
    go_wp2
    go_meet
    exact ⟨⟨false, rfl, (by simp), fun _ => ⟨fun h => absurd h h3, fun h => absurd h h4, fun h => absurd h h5⟩⟩, A0, R0, hb0⟩
  case rest =>
    clear A0 R0 hb0 a0 a1 a2 a3 r0 r1 r2 r3
    obtain ⟨⟨bad, rfl, hbad, hgood⟩, A0, R0, hb0⟩ := hcut
    cases bad with
    | true =>
      have HF := Lib.hid (hbad rfl)
      clear hbad hgood
      go_wp2
      go_ret
      exact ⟨by rw [HF.out]; rfl, hb0⟩
    | false =>
      have HG := Lib.hid (hgood rfl)
      clear hbad hgood
      have c0 : wc.cell? ⟨w.heap.size, 0, none⟩ = some (.int .i64 k) := A0.cell (by rw [HB.out]; rfl)
      have HS7 : Hid (¬ (k = 7 → ks = ks') → sameV (.mk k n b t ks l) (.mk k' n' b' t' ks' l') = false) := by
        intro hno
        have hno : k = 7 ∧ ks ≠ ks' := Classical.byContradiction (fun hc => hno (fun h7 => Classical.byContradiction (fun he => hc ⟨h7, he⟩)))
        obtain ⟨h7, hne⟩ := hno
        have e1 : (k != 7) = false := by simpa using h7
        rw [HSV.out, e1, beq_eq_false_iff_ne.2 hne]; simp
      go_upto_if 49 with (fail)
      go_cut [] (fun wx => (k = 7 → ks = ks') ∧ Blk wx w.heap.size 50 box ∧ Blk wx (w.heap.size + 1) 50 box' ∧ Below w.heap.size w wx)
      case first =>
        by_cases h7 : k = 7
        · have t7 : (k == 7) = true := by simpa using h7
          have a4 : wc.cell? ⟨w.heap.size, 4, none⟩ = some (.slice ak ks.length ck) := A0.cell (by rw [HB.out]; rfl)
          have r4 : wc.cell? ⟨w.heap.size + 1, 4, none⟩ = some (.slice ak' ks'.length ck') := R0.cell (by rw [HB'.out]; rfl)
          have H7 := Lib.hid h7
          clear h7
          by_cases hkl : ks.length = ks'.length
          · have t1 : ((ks.length : Int) != (ks'.length : Int)) = false := by rw [hkl]; simp
            have HKL := Lib.hid hkl
            clear hkl
            go_wp2
            go_loopw [5] (fun i wr => ∃ j : Nat, j ≤ ks.length ∧ i = .int .i64 j ∧ ks.take j = ks'.take j ∧ Blk wr w.heap.size 50 box ∧ Blk wr (w.heap.size + 1) 50 box' ∧ Below w.heap.size w wr) (fun i _ => ks.length - (intOf i).toNat)
            case atStart => exact ⟨0, Nat.zero_le _, rfl, rfl, A0, R0, hb0⟩
            case round =>
              clear A0 R0 hb0 a4 r4 c0
              obtain ⟨j, hj, rfl, htk, A0, R0, hb0⟩ := hrel
              have a4 : wr.cell? ⟨w.heap.size, 4, none⟩ = some (.slice ak ks.length ck) := A0.cell (by rw [HB.out]; rfl)
              have r4 : wr.cell? ⟨w.heap.size + 1, 4, none⟩ = some (.slice ak' ks'.length ck') := R0.cell (by rw [HB'.out]; rfl)
              have HTK := Lib.hid htk
              clear htk
              by_cases hlt : j < ks.length
              · have hlt' : j < ks'.length := by have := HKL.out; omega
                have hbr := hbw.trans (hb0.mono hsz)
                have p1 : wr.cell? ((hd ak).add j) = some (strV ks[j]) := (hks.below hbr).cell (by simp [hlt])
                have p2 : wr.cell? ((hd ak').add j) = some (strV ks'[j]) := (hks'.below hbr).cell (by simp [hlt'])
                have s1 : ak.isSome = true := (hks.below hbr).isSome (i := j) (by simpa using hlt)
                have s2 : ak'.isSome = true := (hks'.below hbr).isSome (i := j) (by simpa using hlt')
                unfold strV at p1 p2
                have j0 : (0 : Int) ≤ (j : Int) := by omega
                have j1 : (j : Int) < (ks.length : Int) := by omega
                have j2 : (j : Int) < (ks'.length : Int) := by omega
                have jb : IntKind.i64.wrap ((j : Int) + 1) = (j : Int) + 1 := IntWalk.i64_in _ (by unfold maxLen at hkc; omega)
                by_cases hx : ks[j] = ks'[j]
                · have HT2 : Hid (ks.take (j + 1) = ks'.take (j + 1)) := by
                    show _ = _
                    rw [List.take_succ_eq_append_getElem hlt, List.take_succ_eq_append_getElem hlt', HTK.out, hx]
                  have t9 : ((str ks[j]).toList == (str ks'[j]).toList) = true := by rw [str_beq]; simpa using hx
                  clear hx hbr
                  generalize ks[j] = x at *
                  generalize ks'[j] = y at *
                  go_wp2
                  go_quiet (fail)
                  go_wp2
                  first
                    | exact ⟨⟨j + 1, by omega, (by first | rfl | go_num | (congr 1; omega)), HT2.out, A0.drewN _, R0.drewN _, Below.drewN hb0 _⟩, by simp [intOf] <;> omega⟩
                    | (refine ⟨?_, by simp [intOf] <;> omega⟩; (repeat apply Exists.intro); exact ⟨⟨j + 1, by omega, (by first | rfl | go_num | (congr 1; omega)), HT2.out, A0.drewN _, R0.drewN _, Below.drewN hb0 _⟩, rfl⟩)
                · have HF : Hid (sameV (.mk k n b t ks l) (.mk k' n' b' t' ks' l') = false) := HS7.out (fun h => keys_stop hlt hlt' hx (h H7.out))
                  have t9 : ((str ks[j]).toList == (str ks'[j]).toList) = false := by rw [str_beq]; simpa using hx
                  clear hx hbr
                  generalize ks[j] = x at *
                  generalize ks'[j] = y at *
                  go_wp2
                  go_quiet (fail)
                  go_wp2
                  go_ret
                  exact ⟨by rw [HF.out]; rfl, Below.drewN hb0 _⟩
              · obtain rfl : j = ks.length := by omega
                have HE : Hid (ks = ks') := by
                  have := HTK.out
                  rw [List.take_length, HKL.out, List.take_length] at this
                  exact this
                clear HTK
                go_wp2
                go_meet
                exact ⟨fun _ => HE.out, A0, R0, hb0⟩
          · have t1 : ((ks.length : Int) != (ks'.length : Int)) = true := by simpa using fun h => hkl (by exact_mod_cast h)
            have HF : Hid (sameV (.mk k n b t ks l) (.mk k' n' b' t' ks' l') = false) := HS7.out (fun h => hkl (by rw [h H7.out]))
            clear hkl
            go_wp2
            go_ret
            exact ⟨by rw [HF.out]; rfl, hb0⟩
        · have t7 : (k == 7) = false := by simpa using h7
          go_wp2
          go_meet
          exact ⟨fun h => absurd h h7, A0, R0, hb0⟩
      case rest =>
        clear A0 R0 hb0 c0 HS7
        obtain ⟨h7, A0, R0, hb0⟩ := hcut
        have H7 := Lib.hid h7
        clear h7
        have c0 : wc.cell? ⟨w.heap.size, 0, none⟩ = some (.int .i64 k) := A0.cell (by rw [HB.out]; rfl)
        have HL : Hid (sameV (.mk k n b t ks l) (.mk k' n' b' t' ks' l') = ((k != 6 && k != 7) || sameL l l')) := by
          show _ = _
          obtain ⟨g3, g4, g5⟩ := HG.out
          have e3 : (k != 3 || n == n') = true := by
            by_cases h : k = 3
            · rw [g3 h]; simp
            · simp [h]
          have e4 : (k != 4 || b == b') = true := by
            by_cases h : k = 4
            · rw [g4 h]; simp
            · simp [h]
          have e5 : (k != 5 || t == t') = true := by
            by_cases h : k = 5
            · rw [g5 h]; simp
            · simp [h]
          have e7 : (k != 7 || ks == ks') = true := by
            by_cases h : k = 7
            · rw [H7.out h]; simp
            · simp [h]
          have e0 : (k == k') = true := by simpa using HKK.out
          rw [HSV.out, e0, e3, e4, e5, e7]; rfl
        clear HG H7 HSV
        by_cases hmany : k = 6 ∨ k = 7
        · have HM : Hid (sameV (.mk k n b t ks l) (.mk k' n' b' t' ks' l') = sameL l l') := by
            show _ = _
            have : (k != 6 && k != 7) = false := by rcases hmany with h | h <;> subst h <;> rfl
            rw [HL.out, this]; rfl
          have tt : (k != 6) = false ∨ ((k != 6) = true ∧ (k != 7) = false) := by
            rcases hmany with h | h
            · exact .inl (by subst h; rfl)
            · exact .inr (by subst h; exact ⟨rfl, rfl⟩)
          have a5 : wc.cell? ⟨w.heap.size, 5, none⟩ = some (.slice al l.length cl) := A0.cell (by rw [HB.out]; rfl)
          have r5 : wc.cell? ⟨w.heap.size + 1, 5, none⟩ = some (.slice al' l'.length cl') := R0.cell (by rw [HB'.out]; rfl)
          clear hmany HL
          by_cases hll : l.length = l'.length
          · have t1 : ((l.length : Int) != (l'.length : Int)) = false := by rw [hll]; simp
            have HLL := Lib.hid hll
            clear hll
            go_upto_region 13 with (fail)
            go_cut [82] (fun u wx => u = .bool false ∧ wx = wc)
            case first =>
              rcases tt with t6 | ⟨t6, t7⟩
              · go_wp2
                go_meet
                exact ⟨rfl, rfl⟩
              · go_wp2
                go_meet
                exact ⟨rfl, rfl⟩
            case rest =>
              obtain ⟨rfl, hwc⟩ := hcut
              subst hwc
              clear tt
              go_wp2
              go_loopw [6] (fun i wr => ∃ j : Nat, j ≤ l.length ∧ i = .int .i64 j ∧ sameL (l.take j) (l'.take j) = true ∧ Blk wr w.heap.size 50 box ∧ Blk wr (w.heap.size + 1) 50 box' ∧ Below w.heap.size w wr) (fun i _ => l.length - (intOf i).toNat)
              case atStart => exact ⟨0, Nat.zero_le _, rfl, by rw [List.take_zero, List.take_zero]; rfl, A0, R0, hb0⟩
              case round =>
                clear A0 R0 hb0 a5 r5 c0
                obtain ⟨j, hj, rfl, htk, A0, R0, hb0⟩ := hrel
                have a5 : wr.cell? ⟨w.heap.size, 5, none⟩ = some (.slice al l.length cl) := A0.cell (by rw [HB.out]; rfl)
                have r5 : wr.cell? ⟨w.heap.size + 1, 5, none⟩ = some (.slice al' l'.length cl') := R0.cell (by rw [HB'.out]; rfl)
                have HTK := Lib.hid htk
                clear htk
                by_cases hlt : j < l.length
                · have hlt' : j < l'.length := by have := HLL.out; omega
                  have hcj : css[j]? = some (css[j]'(by omega)) := by simp
                  have hvj : l[j]? = some l[j] := by simp [hlt]
                  have hcj' : css'[j]? = some (css'[j]'(by omega)) := by simp
                  have hvj' : l'[j]? = some l'[j] := by simp [hlt']
                  have hbr : Below w0.heap.size w0 wr.drew := (hbw.trans (hb0.mono hsz)).trans ((Gr.drewN wr 1).mono (hbw.trans (hb0.mono hsz)).size)
                  have IH := ih j _ _ hcj hvj _ _ wr.drew (sub' j _ _ hcj' hvj') hbr
                  have s1 := (hl.below hbr).elemSome (s := 6) h6 (by decide) (i := j) (by omega)
                  have s2 := (hl'.below hbr).elemSome (s := 6) h6' (by decide) (i := j) (by omega)
                  have q1 := ldOp_at (P := Tryz.prog) (ty := 50) ((hl.below hbr).elem (s := 6) h6 hcj) Tryz.underlying50 rfl (by rw [h6 _ (List.getElem_mem _)]; exact sizeV)
                  have q2 := ldOp_at (P := Tryz.prog) (ty := 50) ((hl'.below hbr).elem (s := 6) h6' hcj') Tryz.underlying50 rfl (by rw [h6' _ (List.getElem_mem _)]; exact sizeV)
                  have HT := Lib.hid (sameL_take j hlt hlt')
                  have HN := Lib.hid (fun h => sameL_stop hlt hlt' h)
                  have j0 : (0 : Int) ≤ (j : Int) := by omega
                  have j1 : (j : Int) < (l.length : Int) := by omega
                  have j2 : (j : Int) < (l'.length : Int) := by omega
                  have jb : IntKind.i64.wrap ((j : Int) + 1) = (j : Int) + 1 := IntWalk.i64_in _ (by unfold maxLen at hlc; omega)
                  generalize css[j]'(by omega) = c at *
                  generalize css'[j]'(by omega) = c' at *
                  generalize l[j] = x at *
                  generalize l'[j] = y at *
                  clear hcj hvj hcj' hvj' hbr
                  go_wp2
                  refine wp_region_still_tail 10 (by kernel_rfl) (by kernel_rfl) ?_
                  simp only [List.take_succ_cons, List.take_zero, List.drop_succ_cons, List.drop_zero]
                  change wpStill _ _ wr.drew _ _ _
                  repeat still_step
                  try refine wpStill_nil ?_
                  change wpList _ _ _ _ _ wr.drew
                  go_wp2_with fail
                  refine IH.mono ?_
                  rintro e w5 ⟨rfl, hb5⟩
                  have hbw5 : Below w.heap.size w w5 := hb0.trans ((Below.drewN' (n := 1) hb5).mono hb0.size)
                  have A5 := A0.below (Below.drewN' (n := 1) hb5)
                  have R5 := R0.below (Below.drewN' (n := 1) hb5)
                  rcases Bool.eq_false_or_eq_true (sameV x y) with h | h
                  · have HT2 : Hid (sameL (l.take (j + 1)) (l'.take (j + 1)) = true) := by show _ = _; rw [HT.out, HTK.out, h]; rfl
                    rw [h]
                    go_wp2
                    first
                      | exact ⟨⟨j + 1, by omega, (by first | rfl | go_num | (congr 1; omega)), HT2.out, A5, R5, hbw5⟩, by simp [intOf] <;> omega⟩
                      | (refine ⟨?_, by simp [intOf] <;> omega⟩; (repeat apply Exists.intro); exact ⟨⟨j + 1, by omega, (by first | rfl | go_num | (congr 1; omega)), HT2.out, A5, R5, hbw5⟩, rfl⟩)
                  · have HF : Hid (sameV (.mk k n b t ks l) (.mk k' n' b' t' ks' l') = false) := by show _ = _; rw [HM.out]; exact HN.out h
                    rw [h]
                    go_wp2
                    go_ret
                    exact ⟨by rw [HF.out]; rfl, hbw5⟩
                · obtain rfl : j = l.length := by omega
                  have HF : Hid (sameV (.mk k n b t ks l) (.mk k' n' b' t' ks' l') = true) := by
                    show _ = _
                    have := HTK.out
                    rw [List.take_length, HLL.out, List.take_length] at this
                    rw [HM.out]; exact this
                  clear HTK
                  go_wp2
                  go_ret
                  exact ⟨by rw [HF.out]; rfl, hb0⟩
          · have t1 : ((l.length : Int) != (l'.length : Int)) = true := by simpa using fun h => hll (by exact_mod_cast h)
            have HF : Hid (sameV (.mk k n b t ks l) (.mk k' n' b' t' ks' l') = false) := by show _ = _; rw [HM.out, sameL_diff hll]
            clear hll
            rcases tt with t6 | ⟨t6, t7⟩
            · go_wp2
              go_ret
              exact ⟨by rw [HF.out]; rfl, hb0⟩
            · go_wp2
              go_ret
              exact ⟨by rw [HF.out]; rfl, hb0⟩
        · have t6 : (k != 6) = true := by simp; omega
          have t7 : (k != 7) = true := by simp; omega
          have HF : Hid (sameV (.mk k n b t ks l) (.mk k' n' b' t' ks' l') = true) := by show _ = _; rw [HL.out, t6, t7]; rfl
          go_wp2
          go_ret
          exact ⟨by rw [HF.out]; rfl, hb0⟩
end Go.Proofs.YtpchogicdnfggaaGreatDoor
set_option maxRecDepth 20000
namespace Go.Hd
open Go Go.RowKit Go.ChangeShapes Go.WideShapes Go.ChangeAt
variable {H : Type} {enc : TypeId × Value → H} {P : Program}

theorem trodAll_below (hl : laidOutB P = true) {W W' : World} (hb : Below W.heap.size W W') : ∀ {ts : List TypeId} {vs : List Value} {ds : List (DataW H)} {ps : List MemPlace},
    (ts.all fun t => P.readableRec t && decide (t < P.types.size)) = true → DataW.TrodAll enc P W 0 (fun _ => true) true ts vs ds ps → (∀ x ∈ ps, x.block < W.heap.size) →
    DataW.TrodAll enc P W' 0 (fun b => decide (b < W.heap.size)) true ts vs ds ps
  | [], vs, ds, ps, _, h, _ => by
    obtain ⟨rfl, rfl, rfl⟩ := trodAll_nil h
    exact trodAll_mk0
  | t :: ts, vs, ds, ps, hr, h, hlt => by
    obtain ⟨v, vs', d, ds', p, q, rfl, rfl, rfl, h1, h2⟩ := trodAll_cons h
    simp only [List.all_cons, Bool.and_eq_true, decide_eq_true_eq] at hr
    exact trodAll_cons_mk (Below.trod hl hr.1.1 hr.1.2 h1 hb (fun x hx => hlt x (List.mem_append_left _ hx)))
      (trodAll_below hl hb (by simpa using hr.2) h2 (fun x hx => hlt x (List.mem_append_right _ hx)))

/-- A law's row: true, and nothing that was there is written. -/
theorem law_post {f : Func} {s : ChangeSpec} {W W' : World} {args : Array Value} {ds gs : List (DataW H)} {before : List MemPlace} {tb : TypeId}
    (hl : laidOutB P = true) (hr : (f.params.toList.all fun t => P.readableRec t && decide (t < P.types.size)) = true) (hres : f.resultTypes = #[tb]) (htb : P.underlying tb = some .bool) (hvars : s.vars = [])
    (hW : DataW.Whole enc P f.params.toList s.vars false W args.toList ds gs before) (hfn : s.fn H (ds ++ gs) = { results := [.lit (.bool true)], args := ds }) (bel : Below W.heap.size W W') :
    s.post enc P f false true false false W args (.bool true) W' := by
  have hW' := hW
  obtain ⟨p, q, hA, hV, rfl, _, _⟩ := hW
  refine ⟨ds, gs, p ++ q, [], p, [], hW', ?_, ?_, ?_, bel.frame _, fun h => by cases h⟩
  · rw [hfn, hres]
    exact trodAll_mk1 (shut_bool htb _)
  · rw [hfn]
    exact trodAll_below hl bel hr hA (fun x hx => hW'.lt x (List.mem_append_left _ hx))
  · rw [hvars, hfn]; rfl

theorem open_byt {t e : TypeId} (ht : P.underlying t = some (.slice e)) (he : P.underlying e = some (.int .u8)) (hc : P.cellsOf e = 1) {W : World} {base : Nat} {v : Value} {d : DataW H} {p : List MemPlace}
    (hval : Value.okWide P W .any base t v) (h : DataW.Trod enc P W 0 (fun _ => true) true t v d p) : ∃ (a : Option Addr) (n c : Nat) (l : List UInt8), v = .slice a n c ∧ n = l.length ∧ n ≤ c ∧ c ≤ maxLen ∧ Row W a (l.map b8) := by
  obtain ⟨a, n, c, rfl⟩ := okWide_slice ht hval
  obtain ⟨fuel, hf⟩ := h
  rcases open_ints ht he hc hf with ⟨hcs, _⟩ | ⟨x, l, c', zs, hcs, _, hl, hm, hz, _, hcell, hwz⟩
  · simp [Value.cells] at hcs
    obtain ⟨rfl, rfl, rfl⟩ := hcs
    exact ⟨none, 0, 0, [], rfl, rfl, Nat.le_refl _, Nat.zero_le _, by simp, by simp⟩
  · simp [Value.cells] at hcs
    obtain ⟨rfl, rfl, rfl⟩ := hcs
    have hzl : zs.length = c := by simpa using hz
    refine ⟨some x, n, c, (zs.take n).map fun z => UInt8.ofNat z.toNat, rfl, by simp; omega, hl, hm, fun _ => rfl, fun i u hu => ?_⟩
    have hi : i < n := by
      rcases Nat.lt_or_ge i n with h | h
      · exact h
      · rw [List.getElem?_eq_none (by simp; omega)] at hu; cases hu
    have hiz : i < zs.length := by omega
    have hcl := hcell i (by omega)
    have hb := hwz (zs[i]) (List.getElem_mem hiz)
    have hbd : 0 ≤ zs[i] ∧ zs[i] ≤ 255 := by
      have h := hb
      simp [Lit.wf, IntKind.min, IntKind.max, IntKind.signed, IntKind.bits] at h
      omega
    rw [List.getElem?_map, List.getElem?_map, List.getElem?_take_of_lt hi, List.getElem?_eq_getElem hiz] at hu
    simp only [Option.map_some, Option.some.injEq] at hu
    subst hu
    rw [hd_some, hcl]
    simp only [List.getD_eq_getElem?_getD, List.getElem?_eq_getElem hiz, Option.getD_some]
    congr 2
    simp
    omega

/-! A slice of anything: its elements' cells, one row. -/
end Go.Hd
set_option maxRecDepth 20000
namespace Go.Proofs.YtpchogicdnfggaaGreatDoor
open Go.RowKit Go.Hd Go.ChangeShapes Go.WideShapes Go.ChangeAt
attribute [local go_sem ↓] h_ldV h_stV h_alV
attribute [local go_sem] r_ldV r_stV r_alV

/-- A number, as six cells. -/
def numC (n : Int) : List Value := [.int .i64 3, .int .i64 n, .slice none 0 0, strV [], .slice none 0 0, .slice none 0 0]
theorem of_any (n : Int) (w : World) : Calls Tryz.prog 43 #[.int .i64 n] w fun e w' => e = .returned (.agg (List.toArray (numC n))) ∧ Below w.heap.size w w' := by
  have zs := zV_size
  have hO6 := oneC6
  have B3 : Blk (w.alloc (.cells (List.toArray (numC n)) 50)) w.heap.size 50 (numC n) := Blk.new _ _ _
  have hb : Below w.heap.size w (w.alloc (.cells (List.toArray (numC n)) 50)) := (Below.refl _ _).alloc (Nat.le_refl _) _
  go_enter Tryz.func43, Tryz.ntmps43
  go_wp2
  refine bodyPost_ret (results_cell_row (fn := Tryz.f43) (by rfl) _ _ w.heap.size 50 _ (0, 0) _ (by rfl) B3 Tryz.underlying50 rfl sizeV) rfl ⟨rfl, hb⟩
end Go.Proofs.YtpchogicdnfggaaGreatDoor
set_option maxRecDepth 20000
namespace Go.Proofs.YtpchogicdnfggaaGreatDoor
open Go.RowKit Go.Hd

/-- What a reading tells: something and the rest, or why not. -/
inductive Rs (α : Type) where
  | ok (x : α) (r : List UInt8)
  | no (c : Int)
namespace Rs
def bind {α β : Type} (s : Rs α) (f : α → List UInt8 → Rs β) : Rs β := match s with | ok x r => f x r | no c => no c
def isNo {α : Type} (s : Rs α) : Bool := match s with | ok _ _ => false | no _ => true
@[simp] theorem bind_ok {α β : Type} (x : α) (r : List UInt8) (f : α → List UInt8 → Rs β) : (ok x r).bind f = f x r := rfl
@[simp] theorem bind_no {α β : Type} (c : Int) (f : α → List UInt8 → Rs β) : (no c : Rs α).bind f = no c := rfl
theorem bind_bind {α β γ : Type} (s : Rs α) (f : α → List UInt8 → Rs β) (k : β → List UInt8 → Rs γ) : (s.bind f).bind k = s.bind fun x r => (f x r).bind k := by cases s <;> rfl
end Rs
def takeR (n : Nat) (l : List UInt8) : Rs (List UInt8) := if l.length < n then .no 3 else .ok (l.take n) (l.drop n)
def bigR (n : Nat) (l : List UInt8) : Rs Nat := (takeR n l).bind fun b r => .ok (getL b.reverse) r
def leastR (n lo : Nat) (l : List UInt8) : Rs Nat := (bigR n l).bind fun x r => if x < lo then .no 4 else .ok x r
def sext (n u : Nat) : Int := if u < 2 ^ (8 * n - 1) then (u : Int) else (u : Int) - 2 ^ (8 * n)
def signedR (n : Nat) (below : Int) (l : List UInt8) : Rs Int := (bigR n l).bind fun u r => if below ≤ sext n u then .no 4 else .ok (sext n u) r
def intR (c : Nat) (l : List UInt8) : Rs Int :=
  if c = 0xcc then (leastR 1 128 l).bind fun x r => .ok (x : Int) r else if c = 0xcd then (leastR 2 256 l).bind fun x r => .ok (x : Int) r else if c = 0xce then (leastR 4 65536 l).bind fun x r => .ok (x : Int) r else
  if c = 0xcf then (leastR 8 4294967296 l).bind fun x r => if 9223372036854775807 < x then .no 4 else .ok (x : Int) r else
  if c = 0xd0 then signedR 1 (-32) l else if c = 0xd1 then signedR 2 (-128) l else if c = 0xd2 then signedR 4 (-32768) l else signedR 8 (-2147483648) l
def isText (c : Nat) : Bool := c / 32 == 5 || c == 0xd9 || c == 0xda
def textR (c : Nat) (l : List UInt8) : Rs (List UInt8) :=
  if c / 32 = 5 then takeR (c % 32) l else if c = 0xd9 then (leastR 1 32 l).bind takeR else (leastR 2 256 l).bind takeR
def listR (f : List UInt8 → Rs PV) : Nat → List UInt8 → Rs (List PV)
  | 0, l => .ok [] l
  | n + 1, l => (f l).bind fun v r => (listR f n r).bind fun vs r2 => .ok (v :: vs) r2
/-- A key's lead, the key, and that it is behind the one before. -/
def keyR (prev : Option (List UInt8)) (l : List UInt8) : Rs (List UInt8) :=
  match l with
  | [] => .no 3
  | c :: r => if isText c.toNat = false then .no 4 else (textR c.toNat r).bind fun k r2 => if (match prev with | none => false | some p => leT k p) = true then .no 4 else .ok k r2
def dictR (f : List UInt8 → Rs PV) : Nat → Option (List UInt8) → List UInt8 → Rs (List (List UInt8 × PV))
  | 0, _, l => .ok [] l
  | n + 1, prev, l => (keyR prev l).bind fun k r => (f r).bind fun v r2 => (dictR f n (some k) r2).bind fun vs r3 => .ok ((k, v) :: vs) r3
def int8 (c : Nat) : Int := if c < 128 then (c : Int) else (c : Int) - 256
def pNum (n : Int) : PV := .mk 3 n [] [] [] []
def pTxt (t : List UInt8) : PV := .mk 5 0 [] t [] []
def pByt (b : List UInt8) : PV := .mk 4 0 b [] [] []
def pKind (k : Int) : PV := .mk k 0 [] [] [] []
def pList (l : List PV) : PV := .mk 6 0 [] [] [] l
def pDict (l : List (List UInt8 × PV)) : PV := .mk 7 0 [] [] (l.map (·.1)) (l.map (·.2))
/-- What stands behind a lead that is no text's. -/
def leadR (f : List UInt8 → Rs PV) (c : Nat) (r : List UInt8) : Rs PV :=
  if isText c = true then (textR c r).bind fun t r2 => .ok (pTxt t) r2 else
  if c ≤ 0x7f ∨ 0xe0 ≤ c then .ok (pNum (int8 c)) r else
  if c / 16 = 9 then (listR f (c % 16) r).bind fun l r2 => .ok (pList l) r2 else
  if c / 16 = 8 then (dictR f (c % 16) none r).bind fun l r2 => .ok (pDict l) r2 else
  if 0xcc ≤ c ∧ c ≤ 0xd3 then (intR c r).bind fun n r2 => .ok (pNum n) r2 else
  if c = 0xc0 then .ok (pKind 0) r else if c = 0xc2 then .ok (pKind 1) r else if c = 0xc3 then .ok (pKind 2) r else
  if c = 0xc4 then ((bigR 1 r).bind takeR).bind fun b r2 => .ok (pByt b) r2 else
  if c = 0xc5 then ((leastR 2 256 r).bind takeR).bind fun b r2 => .ok (pByt b) r2 else
  if c = 0xdc then (leastR 2 16 r).bind fun n r2 => (listR f n r2).bind fun l r3 => .ok (pList l) r3 else
  if c = 0xde then (leastR 2 16 r).bind fun n r2 => (dictR f n none r2).bind fun l r3 => .ok (pDict l) r3 else .no 4
/-- The value that bytes begin with. -/
def decV : Nat → List UInt8 → Rs PV
  | 0, l => if l = [] then .no 3 else .no 4
  | d + 1, l => match l with
    | [] => .no 3
    | c :: r => leadR (decV d) c.toNat r
/-- The value that bytes are, or why none. -/
def decF (l : List UInt8) : PV × Int := if 65536 < l.length then (pv0, 5) else match decV 16 l with
  | .no c => (pv0, c)
  | .ok v r => if r = [] then (v, 0) else (pv0, 6)
end Go.Proofs.YtpchogicdnfggaaGreatDoor
