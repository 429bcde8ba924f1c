/- Layer 23: values of one text, one number, one id; lists. -/
import Derived.Test.YtakliplkabgmbaaM2
import Derived.Test.YtakliplkabgmbaaV23
import Derived.Test.YtakliplkabgmbaaPlD
import Derived.Test.YtakliplkabgmbaaLibG
set_option maxRecDepth 20000
namespace Go.Proofs.Ytakliplkabgmbaa
open Go.RowKit Go.Hd
attribute [local go_sem ↓] h_ldV h_stV h_alV h_ldID h_stID h_alID
attribute [local go_sem] r_ldV r_stV r_alV r_ldID r_stID r_alID

/-- A text, a list, an id as six cells. -/
def txtC (t : List UInt8) : List Value := [.int .i64 5, .int .i64 0, .slice none 0 0, strV t, .slice none 0 0, .slice none 0 0]
def lstC (v : Value) : List Value := [.int .i64 6, .int .i64 0, .slice none 0 0, strV [], .slice none 0 0, v]
def bytC (v : Value) : List Value := [.int .i64 4, .int .i64 0, v, strV [], .slice none 0 0, .slice none 0 0]
theorem VAtP.txt {ok : Nat → Prop} (w : World) {t : List UInt8} (h : t.length ≤ maxLen) : VAtP ok w (txtC t) (pTxt t) :=
  .mk (b := []) (t := t) (ks := []) (l := []) [] (by unfold in64; omega) (by unfold in64; omega) (Row.nil _ _) ⟨Nat.le_refl _, Nat.zero_le _⟩ h (Row.nil _ _) ⟨Nat.le_refl _, Nat.zero_le _⟩ (by simp) (Row.nil _ _) ⟨Nat.le_refl _, Nat.zero_le _⟩ rfl (by simp) (by simp) (by simp) (by simp) (by simp)
theorem VAtP.numb {ok : Nat → Prop} (w : World) {n : Int} (h : in64 n) : VAtP ok w (numC n) (pNum n) :=
  .mk (b := []) (t := []) (ks := []) (l := []) [] (by unfold in64; omega) h (Row.nil _ _) ⟨Nat.le_refl _, Nat.zero_le _⟩ (Nat.zero_le _) (Row.nil _ _) ⟨Nat.le_refl _, Nat.zero_le _⟩ (by simp) (Row.nil _ _) ⟨Nat.le_refl _, Nat.zero_le _⟩ rfl (by simp) (by simp) (by simp) (by simp) (by simp)
theorem VAtP.byt {ok : Nat → Prop} {w : World} {a : Option Addr} {c : Nat} {l : List UInt8} (hr : Row w a (l.map b8)) (hl : l.length ≤ c) (hc : c ≤ maxLen) (ho : 0 < l.length → ok (hd a).block) : VAtP ok w (bytC (.slice a l.length c)) (pByt l) :=
  .mk (b := l) (t := []) (ks := []) (l := []) [] (by unfold in64; omega) (by unfold in64; omega) hr ⟨hl, hc⟩ (Nat.zero_le _) (Row.nil _ _) ⟨Nat.le_refl _, Nat.zero_le _⟩ (by simp) (Row.nil _ _) ⟨Nat.le_refl _, Nat.zero_le _⟩ rfl (by simp) ho (by simp) (by simp) (by simp)
/-- A list out of a row of values. -/
theorem VAtP.lst {ok : Nat → Prop} {w : World} {a : Option Addr} {c : Nat} {css : List (List Value)} {l : List PV} (hr : Row w a css.flatten) (hl : l.length ≤ c) (hc : c ≤ maxLen) (hcs : css.length = l.length) (h6 : ∀ c ∈ css, c.length = 6)
    (ho : 0 < l.length → ok (hd a).block) (sub : ∀ (i : Nat) (c : List Value) (v : PV), css[i]? = some c → l[i]? = some v → VAtP ok w c v) : VAtP ok w (lstC (.slice a l.length c)) (pList l) :=
  .mk (b := []) (t := []) (ks := []) (l := l) css (by unfold in64; omega) (by unfold in64; omega) (Row.nil _ _) ⟨Nat.le_refl _, Nat.zero_le _⟩ (Nat.zero_le _) (Row.nil _ _) ⟨Nat.le_refl _, Nat.zero_le _⟩ (by simp) hr ⟨hl, hc⟩ hcs h6 (by simp) (by simp) ho sub
/-- A map out of a row of keys and a row of values. -/
theorem VAtP.map {ok : Nat → Prop} {w : World} {ak a : Option Addr} {ck c : Nat} {ks : List (List UInt8)} {css : List (List Value)} {l : List PV} (hk : Row w ak (ks.map strV)) (hkl : ks.length ≤ ck) (hkc : ck ≤ maxLen) (hkt : ∀ x ∈ ks, x.length ≤ maxLen) (oks : 0 < ks.length → ok (hd ak).block)
    (hr : Row w a css.flatten) (hl : l.length ≤ c) (hc : c ≤ maxLen) (hcs : css.length = l.length) (h6 : ∀ c ∈ css, c.length = 6)
    (ho : 0 < l.length → ok (hd a).block) (sub : ∀ (i : Nat) (c : List Value) (v : PV), css[i]? = some c → l[i]? = some v → VAtP ok w c v) :
    VAtP ok w [.int .i64 7, .int .i64 0, .slice none 0 0, strV [], .slice ak ks.length ck, .slice a l.length c] (.mk 7 0 [] [] ks l) :=
  .mk (b := []) (t := []) (ks := ks) (l := l) css (by unfold in64; omega) (by unfold in64; omega) (Row.nil _ _) ⟨Nat.le_refl _, Nat.zero_le _⟩ (Nat.zero_le _) hk ⟨hkl, hkc⟩ hkt hr ⟨hl, hc⟩ hcs h6 (by simp) oks ho sub
/-- A value more, out of a row of memory. -/
theorem VsAt.appR {ok ok' : Nat → Prop} {base : Nat} {w : World} {u : Value} {vs : List PV} {c : List Value} {x : PV} {ty : TypeId} {a2 : Option Addr} {c2 : Nat} (h : VsAt ok base w u vs) (hok : ∀ b, ok b → u.ownBlock ≠ some b) (hx : VAtP ok w c x) (hok' : ∀ b, ok b → b < w.heap.size → ok' b)
    (hn : vs.length ≤ 1000000000) (hb : base ≤ w.heap.size) (hrow : Row w a2 c) :
    ∃ a' c' w', (Builtin.append_ #[61, 61] ty #[u, .slice a2 1 c2]).run Try.prog w = .ok (.slice a' (vs.length + 1) c') w' ∧ VsAt ok' base w' (.slice a' (vs.length + 1) c') (vs ++ [x]) ∧ Gro w w' u (.slice a' (vs.length + 1) c') := by
  obtain ⟨css, hc1, hc2, hown, hel⟩ := h
  have hl6 := hx.len
  have hsrc : Src Try.prog 6 61 (.slice a2 1 c2) 1 c w := Src.ofRow eV.ht _ 1 c2 c (by decide) (by rw [hl6]) hrow hx.one
  obtain ⟨v', w', h1, h2, h3, h4⟩ := append_srcK (ty := ty) eV hown hsrc (by unfold maxLen; omega) (by omega) hb
  obtain ⟨a', c', rfl, _⟩ := owns_rowN h2 (by decide)
  have hG : Gro w w' u (.slice a' (vs.length + 1) c') := ⟨h3, h4⟩
  have keep : ∀ {d : List Value} {y : PV}, VAtP ok w d y → VAtP ok' w' d y := fun hd =>
    (hd.mono (ok' := fun b => ok b ∧ b < w.heap.size) (fun b h1 h2 => ⟨h1, h2⟩)).same (w' := w') (fun b h1 h2 => hG.gr.block b h2 (fun e => hok b h1.1 e.symm)) |>.mono (fun b h1 _ => hok' b h1.1 h1.2)
  refine ⟨a', c', w', h1, ⟨css ++ [c], by simp [hc1], ?_, ?_, ?_⟩, hG⟩
  · intro d hd
    rcases List.mem_append.1 hd with h | h
    · exact hc2 d h
    · simp at h; subst h; exact hl6
  · rw [flat_snoc]; simpa using h2
  · intro i d y hd hy
    rcases Nat.lt_or_ge i css.length with h | h
    · rw [List.getElem?_append_left h] at hd
      rw [List.getElem?_append_left (by omega)] at hy
      exact keep (hel i d y hd hy)
    · rw [List.getElem?_append_right h] at hd
      rw [List.getElem?_append_right (by omega)] at hy
      have hi : i - css.length = 0 := by
        rcases Nat.eq_zero_or_pos (i - css.length) with h0 | h0
        · exact h0
        · rw [List.getElem?_eq_none (by simp; omega)] at hd; cases hd
      rw [hi] at hd
      rw [← hc1, hi] at hy
      simp at hd hy
      subst hd hy
      exact keep hx
theorem ptext_any (t : List UInt8) (w : World) : Calls Try.prog 52 #[.string (str t)] w fun e w' => e = .returned (.agg (List.toArray (txtC t))) ∧ Below w.heap.size w w' := by
  have zs := zV_size
  have hO6 := oneC6
  have B3 : Blk (w.alloc (.cells (List.toArray (txtC t)) 63)) w.heap.size 63 (txtC t) := Blk.new _ _ _
  have hb : Below w.heap.size w (w.alloc (.cells (List.toArray (txtC t)) 63)) := (Below.refl _ _).alloc (Nat.le_refl _) _
  go_enter Try.func52, Try.ntmps52
  go_wp2
  refine bodyPost_ret (results_cell_row (fn := Try.f52) (by rfl) _ _ w.heap.size 63 _ (0, 0) _ (by rfl) B3 Try.underlying63 rfl sizeV) rfl ⟨rfl, hb⟩
theorem rtext_any (t : List UInt8) (w : World) : Calls Try.prog 58 #[.string (str t)] w fun e w' => e = .returned (.agg (List.toArray (txtC t))) ∧ Below w.heap.size w w' := by
  have zs := zV_size
  have hO6 := oneC6
  have B3 : Blk (w.alloc (.cells (List.toArray (txtC t)) 63)) w.heap.size 63 (txtC t) := Blk.new _ _ _
  have hb : Below w.heap.size w (w.alloc (.cells (List.toArray (txtC t)) 63)) := (Below.refl _ _).alloc (Nat.le_refl _) _
  go_enter Try.func58, Try.ntmps58
  go_wp2
  refine bodyPost_ret (results_cell_row (fn := Try.f58) (by rfl) _ _ w.heap.size 63 _ (0, 0) _ (by rfl) B3 Try.underlying63 rfl sizeV) rfl ⟨rfl, hb⟩
theorem rnum_any (n : Int) (w : World) : Calls Try.prog 60 #[.int .i64 n] w fun e w' => e = .returned (.agg (List.toArray (numC n))) ∧ Below w.heap.size w w' := by
  have zs := zV_size
  have hO6 := oneC6
  have B3 : Blk (w.alloc (.cells (List.toArray (numC n)) 63)) w.heap.size 63 (numC n) := Blk.new _ _ _
  have hb : Below w.heap.size w (w.alloc (.cells (List.toArray (numC n)) 63)) := (Below.refl _ _).alloc (Nat.le_refl _) _
  go_enter Try.func60, Try.ntmps60
  go_wp2
  refine bodyPost_ret (results_cell_row (fn := Try.f60) (by rfl) _ _ w.heap.size 63 _ (0, 0) _ (by rfl) B3 Try.underlying63 rfl sizeV) rfl ⟨rfl, hb⟩
theorem plist_any (a : Option Addr) (n c : Nat) (w : World) : Calls Try.prog 51 #[.slice a n c] w fun e w' => e = .returned (.agg (List.toArray (lstC (.slice a n c)))) ∧ Below w.heap.size w w' := by
  have zs := zV_size
  have hO6 := oneC6
  have B3 : Blk (w.alloc (.cells (List.toArray (lstC (.slice a n c))) 63)) w.heap.size 63 (lstC (.slice a n c)) := Blk.new _ _ _
  have hb : Below w.heap.size w (w.alloc (.cells (List.toArray (lstC (.slice a n c))) 63)) := (Below.refl _ _).alloc (Nat.le_refl _) _
  go_enter Try.func51, Try.ntmps51
  go_wp2
  refine bodyPost_ret (results_cell_row (fn := Try.f51) (by rfl) _ _ w.heap.size 63 _ (0, 0) _ (by rfl) B3 Try.underlying63 rfl sizeV) rfl ⟨rfl, hb⟩
def BlobP (id : List UInt8) (w : World) (e : Ending) (w' : World) : Prop :=
  ∃ a c, e = .returned (.agg (List.toArray (bytC (.slice a 32 c)))) ∧ Row w' a (id.map b8) ∧ 32 ≤ c ∧ c ≤ maxLen ∧ w.heap.size ≤ (hd a).block ∧ Below w.heap.size w w'
theorem mblob_any (id : List UInt8) (w : World) (hi : id.length = 32) : Calls Try.prog 53 #[.agg (List.toArray (id.map b8))] w (BlobP id w) := by
  have zs := zV_size
  have hO6 := oneC6
  have zi : (List.toArray (id.map b8)).size = 32 := by simp [hi]
  go_enter Try.func53, Try.ntmps53
  go_upto_region 1 with (fail)
  have hall : Hid (∀ W, W = (w.alloc (.cells (List.toArray (id.map b8)) 29)).alloc (.cells zV 63) → Blk W w.heap.size 29 (id.map b8) ∧ Blk W (w.heap.size + 1) 63 zV.toList ∧ Below w.heap.size w W ∧ W.heap.size = w.heap.size + 2) := by
    rintro W rfl
    refine ⟨(Blk.new w 29 _).alloc _, ?_, ((Below.refl _ _).alloc (Nat.le_refl _) _).alloc (by simp) _, by simp⟩
    have := Blk.new (w.alloc (.cells (List.toArray (id.map b8)) 29)) 63 zV
    simpa using this
  generalize hW : (w.alloc (.cells (List.toArray (id.map b8)) 29)).alloc (.cells zV 63) = W at *
  obtain ⟨g1, g2, g3, g4⟩ := hall.out W rfl
  clear hall hW
  have hcl := clone_any (some ⟨w.heap.size, 0, none⟩) 32 32 id W hi.symm g1.row (by omega)
  have HI := Lib.hid hi
  clear hi
  go_wp2_with fail
  refine hcl.mono ?_
  rintro e w2 ⟨v, rfl, hF⟩
  obtain ⟨a1, c1, rfl, hr, hb, h1, h2⟩ := fresh_open hF
  have hat := Lib.hid (fresh_at hF)
  rw [HI.out] at h2 ⊢
  have g5 := g2.below hb
  have hst := st_row g5 (by rfl)
  have hst2 := hst (List.toArray (bytC (.slice a1 32 c1))) (by rfl) (by unfold OneC bytC; simp [Value.oneCell', strV])
  have hgr := setRow_gr w2 (w.heap.size + 1) (List.toArray (bytC (.slice a1 32 c1)))
  have hR : Hid (BlobP id w (.returned (.agg (List.toArray (bytC (.slice a1 32 c1))))) (w2.setRow (w.heap.size + 1) (List.toArray (bytC (.slice a1 32 c1))))) := by
    have h0 := hat.out (by have := HI.out; omega)
    have hrne : (hd a1).block ≠ w.heap.size + 1 := by omega
    refine ⟨a1, c1, rfl, hr.grown hgr (fun _ => hrne), h2, h1, by omega, ?_⟩
    have hb2 : Below w.heap.size w w2 := g3.trans (hb.mono (by omega))
    exact hb2.trans ⟨hgr.os, hgr.tape, hgr.output, hgr.size, fun k hk => hgr.block k (Nat.lt_of_lt_of_le hk hb2.size) (by simp; omega)⟩
  have hB := setRow_blk g5 (bytC (.slice a1 32 c1))
  clear hat hst hgr g1 g2 g3 g4 g5 hcl hr hb h1 h2 hF
  change (stoOp 63 _ (.agg #[.int .i64 4, .int .i64 0, .slice a1 32 c1, .string { data := #[] }, .slice none 0 0, .slice none 0 0])).run _ _ = .ok () (w2.setRow _ #[.int .i64 4, .int .i64 0, .slice a1 32 c1, .string { data := #[] }, .slice none 0 0, .slice none 0 0]) at hst2
  change Hid (BlobP id w _ (w2.setRow _ #[.int .i64 4, .int .i64 0, .slice a1 32 c1, .string { data := #[] }, .slice none 0 0, .slice none 0 0])) at hR
  change Blk (w2.setRow _ #[.int .i64 4, .int .i64 0, .slice a1 32 c1, .string { data := #[] }, .slice none 0 0, .slice none 0 0]) _ _ _ at hB
  go_wp2
  refine bodyPost_ret (results_cell_row (fn := Try.f53) (by rfl) _ _ (w.heap.size + 1) 63 _ (0, 0) _ (by rfl) hB Try.underlying63 rfl sizeV) rfl hR.out
end Go.Proofs.Ytakliplkabgmbaa
