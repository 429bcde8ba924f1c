/- Joined: what one statement of this layer stands on, part 9 of 17; nothing is assumed. -/
import Derived.Test.YtpchogicdnfggaaDoorKX6
import Derived.Test.YtpchogicdnfggaaDoorKX8
set_option maxRecDepth 20000
namespace Go.Proofs.YtpchogicdnfggaaDoor
open Go.RowKit Go.Hd
section
variable (ρ : Operand → Value) (dst : Option Tmp) (ty : TypeId) (pos : String) (after : Array Edge) (guard : Option (Nat × Bool))
theorem h_bsV1 (n : Nat) (parts : Array (Nat × Operand)) : execOp ρ { dst, op := .buildSlice 28 n parts, type := ty, pos, after, guard } = (do pure (.value (← bsOp 28 n (parts.map fun (i, x) => (i, ρ x))))) := rfl
end
theorem infoV1 : (Tryd.prog.info? 30).map (fun i => (i.zero, i.size)) = some (some (.agg zV), 6) := by kernel_rfl
theorem r_bsV1 {w : World} {cs : Array Value} (hs : cs.size = 6) : (bsOp 28 1 #[(0, .agg cs)]).run Tryd.prog w = .ok (.slice (some ⟨w.heap.size, 0, none⟩) 1 1) (w.alloc (.cells cs 30)) :=
  bsOp_one Tryd.underlying28 infoV1 (by decide) (by decide) (by exact zV_size) hs
attribute [local go_sem ↓] h_ldV h_stV h_alV h_bsV1
attribute [local go_sem] r_ldV r_stV r_alV r_bsV1
def insAt {α : Type} (l : List α) (i : Nat) (x : α) : List α := l.take i ++ x :: l.drop i
theorem insAt_len {α : Type} {l : List α} {i : Nat} {x : α} (h : i ≤ l.length) : (insAt l i x).length = l.length + 1 := by
  unfold insAt; simp; omega
theorem flat_take {α : Type} {s : Nat} : ∀ {xs : List (List α)} (i : Nat), (∀ x ∈ xs, x.length = s) → xs.flatten.take (i * s) = (xs.take i).flatten
  | [], i, _ => by simp
  | x :: xs, 0, _ => by simp
  | x :: xs, i + 1, h => by
    have hx := h x (by simp)
    rw [List.flatten_cons, List.take_succ_cons, List.flatten_cons, ← flat_take (xs := xs) i (fun y hy => h y (by simp [hy])), show (i + 1) * s = x.length + i * s by rw [hx, Nat.add_mul]; omega, List.take_length_add_append]
theorem flat_drop {α : Type} {s : Nat} : ∀ {xs : List (List α)} (i : Nat), (∀ x ∈ xs, x.length = s) → xs.flatten.drop (i * s) = (xs.drop i).flatten
  | [], i, _ => by simp
  | x :: xs, 0, _ => by simp
  | x :: xs, i + 1, h => by
    have hx := h x (by simp)
    rw [List.flatten_cons, List.drop_succ_cons, ← flat_drop (xs := xs) i (fun y hy => h y (by simp [hy])), show (i + 1) * s = x.length + i * s by rw [hx, Nat.add_mul]; omega, List.drop_length_add_append]
/-- A list of values with one put in at place i, as the library's function leaves it. -/
theorem VsAt.ins {ok ok' : Nat → Prop} {base : Nat} {w w' : World} {u u' : Value} {vs : List PV} {c : List Value} {x : PV} {i : Nat} {css : List (List Value)} (hc1 : css.length = vs.length) (hc2 : ∀ d ∈ css, d.length = 6) (hel : ∀ (j : Nat) (d : List Value) (y : PV), css[j]? = some d → vs[j]? = some y → VAtP ok w d y)
    (hi : i ≤ vs.length) (hx : VAtP ok w c x) (hok : ∀ b, ok b → u.ownBlock ≠ some b) (hok' : ∀ b, ok b → b < w.heap.size → ok' b) (hG : Gro w w' u u') (hO : w'.ownsRow base 30 6 u' (vs.length + 1) (css.flatten.take (i * 6) ++ c ++ css.flatten.drop (i * 6))) : VsAt ok' base w' u' (insAt vs i x) := by
  have keep : ∀ {d : List Value} {y : PV}, VAtP ok w d y → VAtP ok' w' d y := fun hd =>
    (hd.mono (ok' := fun b => ok b ∧ b < w.heap.size) (fun b h1 h2 => ⟨h1, h2⟩)).same (w' := w') (fun b h1 h2 => hG.gr.block b h2 (fun e => hok b h1.1 e.symm)) |>.mono (fun b h1 _ => hok' b h1.1 h1.2)
  refine ⟨insAt css i c, by rw [insAt_len (by omega), insAt_len hi, hc1], ?_, ?_, ?_⟩
  · intro d hd
    unfold insAt at hd
    rcases List.mem_append.1 hd with h | h
    · exact hc2 d (List.mem_of_mem_take h)
    · rcases List.mem_cons.1 h with h | h
      · rw [h]; exact hx.len
      · exact hc2 d (List.mem_of_mem_drop h)
  · rw [insAt_len hi]
    have e : (insAt css i c).flatten = css.flatten.take (i * 6) ++ c ++ css.flatten.drop (i * 6) := by
      rw [flat_take i hc2, flat_drop i hc2]; unfold insAt; simp
    rw [e]; exact hO
  · intro j d y hd hy
    unfold insAt at hd hy
    have l1 : (css.take i).length = i := by simp; omega
    have l2 : (vs.take i).length = i := by simp; omega
    rcases Nat.lt_or_ge j i with h | h
    · rw [List.getElem?_append_left (by omega), List.getElem?_take, if_pos h] at hd hy
      exact keep (hel j d y hd hy)
    · rw [List.getElem?_append_right (by omega), l1] at hd
      rw [List.getElem?_append_right (by omega), l2] at hy
      rcases Nat.eq_zero_or_pos (j - i) with h0 | h0
      · rw [h0] at hd hy
        simp at hd hy
        subst hd hy
        exact keep hx
      · obtain ⟨m, hm⟩ : ∃ m, j - i = m + 1 := ⟨j - i - 1, by omega⟩
        rw [hm, List.getElem?_cons_succ, List.getElem?_drop] at hd hy
        exact keep (hel _ d y hd hy)
/-- Where the rows of a map's values may lie. -/
def okD (base q : Nat) (uK uL : Value) (b : Nat) : Prop := base ≤ b ∧ b ≠ q ∧ uK.ownBlock ≠ some b ∧ uL.ownBlock ≠ some b
/-- The map that is made. -/
structure DB (base q : Nat) (w : World) (ks : List (List UInt8)) (vs : List PV) (uK uL : Value) : Prop where
  B : Blk w q 68 [.int .i64 7, .int .i64 0, .slice none 0 0, strV [], uK, uL]
  hq : base ≤ q
  K : KsAt base w uK ks
  L : VsAt (okD base q uK uL) base w uL vs
  kq : uK.ownBlock ≠ some q
  lq : uL.ownBlock ≠ some q
  kl : ∀ b, uK.ownBlock = some b → uL.ownBlock ≠ some b
  len : ks.length ≤ 100 ∧ vs.length ≤ 100
  kt : ∀ k ∈ ks, k.length ≤ maxLen
theorem DB.grow {base q : Nat} {w w' : World} {ks : List (List UInt8)} {vs : List PV} {uK uL : Value} (h : DB base q w ks vs uK uL) (hb : Below w.heap.size w w') : DB base q w' ks vs uK uL where
  B := h.B.below hb
  hq := h.hq
  K := ownsRow_below h.K hb
  L := h.L.same hb.size (fun b hu => hb.block b (by
    obtain ⟨css, _, _, hO, _⟩ := h.L
    exact (World.ownsRow.lt hO b hu).2)) (fun b h1 h2 => ⟨hb.block b h2, h1⟩)
  kq := h.kq
  lq := h.lq
  kl := h.kl
  len := h.len
  kt := h.kt
theorem set_below {B q i : Nat} {W : World} {u : Value} (hq : B ≤ q) : Below B W (W.setCell ⟨q, i, none⟩ u) :=
  ⟨rfl, rfl, rfl, by simp, fun k hk => Below.heap_setCell W _ _ k (by show k ≠ q; omega)⟩
theorem DB.addK {base q : Nat} {w w' : World} {ks : List (List UInt8)} {vs : List PV} {uK uL u' : Value} (h : DB base q w ks vs uK uL) {x : List UInt8} (hx : x.length ≤ maxLen) {i : Nat} (hi : i ≤ ks.length) (hl : ks.length < 100)
    (ho : w'.ownsRow base 9 1 u' (ks.length + 1) ((ks.map strV).take (i * 1) ++ [strV x] ++ (ks.map strV).drop (i * 1))) (hg : Gro w w' uK u') : DB base q (w'.setCell ⟨q, 4, none⟩ u') (insAt ks i x) vs u' uL := by
  have hlt6 := fun b hb => World.ownsRow.lt h.K b hb
  have hO8 : ∀ b, uL.ownBlock = some b → base ≤ b ∧ b < w.heap.size := by
    obtain ⟨css, _, _, hO, _⟩ := h.L
    exact fun b hb => World.ownsRow.lt hO b hb
  have hqlt : q < w.heap.size := h.B.lt
  have hset : ∀ b, b ≠ q → (w'.setCell ⟨q, 4, none⟩ u').heap[b]? = w'.heap[b]? := fun b hb => Below.heap_setCell w' _ _ b hb
  have hold : ∀ b, b < w.heap.size → uK.ownBlock ≠ some b → b ≠ q → (w'.setCell ⟨q, 4, none⟩ u').heap[b]? = w.heap[b]? := fun b hb hk hq' => (hset b hq').trans (hg.gr.block b hb (fun e => hk e.symm))
  have hnew : ∀ b, u'.ownBlock = some b → b ≠ q := fun b hb e => by
    subst e
    rcases hg.own _ hb with h1 | h1
    · exact h.kq h1
    · omega
  have hok : ∀ b, okD base q uK uL b → b < w.heap.size → okD base q u' uL b := fun b ⟨o1, o2, o3, o4⟩ hlt => ⟨o1, o2, fun e => by
    rcases hg.own b e with h1 | h1
    · exact o3 h1
    · omega, o4⟩
  exact {
    B := (hg.blk h.B h.kq).1.set 4 _
    hq := h.hq
    K := by
      show World.ownsRow _ _ _ _ _ _ _
      have e : (insAt ks i x).map strV = (ks.map strV).take (i * 1) ++ [strV x] ++ (ks.map strV).drop (i * 1) := by unfold insAt; simp
      rw [insAt_len hi, e]
      exact owns_same ho (fun b hb => hset b (hnew b hb))
    L := h.L.same (by simp; exact hg.size) (fun b hb => hold b (hO8 b hb).2 (fun e => h.kl b e hb) (fun e => h.lq (e ▸ hb))) (fun b hb hlt => ⟨hold b hlt hb.2.2.1 hb.2.1, hok b hb hlt⟩)
    kq := fun e => hnew q e rfl
    lq := h.lq
    kl := fun b hb e => by
      rcases hg.own b hb with h1 | h1
      · exact h.kl b h1 e
      · have := (hO8 b e).2; omega
    len := ⟨by rw [insAt_len hi]; omega, h.len.2⟩
    kt := fun k hk => by
      unfold insAt at hk
      rcases List.mem_append.1 hk with h1 | h1
      · exact h.kt k (List.mem_of_mem_take h1)
      · rcases List.mem_cons.1 h1 with h1 | h1
        · rw [h1]; exact hx
        · exact h.kt k (List.mem_of_mem_drop h1) }
theorem DB.addL {base q : Nat} {w w' : World} {ks : List (List UInt8)} {vs : List PV} {uK uL u' : Value} (h : DB base q w ks vs uK uL) {x : PV} {i : Nat} (hi : i ≤ vs.length) (hl : vs.length < 100)
    (ho : VsAt (okD base q uK u') base w' u' (insAt vs i x)) (hg : Gro w w' uL u') : DB base q (w'.setCell ⟨q, 5, none⟩ u') ks (insAt vs i x) uK u' := by
  have hlt6 := fun b hb => World.ownsRow.lt h.K b hb
  have hqlt : q < w.heap.size := h.B.lt
  have hset : ∀ b, b ≠ q → (w'.setCell ⟨q, 5, none⟩ u').heap[b]? = w'.heap[b]? := fun b hb => Below.heap_setCell w' _ _ b hb
  have hold : ∀ b, b < w.heap.size → uL.ownBlock ≠ some b → b ≠ q → (w'.setCell ⟨q, 5, none⟩ u').heap[b]? = w.heap[b]? := fun b hb hk hq' => (hset b hq').trans (hg.gr.block b hb (fun e => hk e.symm))
  have hnew : ∀ b, u'.ownBlock = some b → b ≠ q := fun b hb e => by
    subst e
    rcases hg.own _ hb with h1 | h1
    · exact h.lq h1
    · omega
  exact {
    B := (hg.blk h.B h.lq).1.set 5 _
    hq := h.hq
    K := owns_same h.K (fun b hb => hold b (hlt6 b hb).2 (fun e => h.kl b hb e) (fun e => h.kq (e ▸ hb)))
    L := ho.same (by simp) (fun b hb => hset b (hnew b hb)) (fun b hb _ => ⟨hset b hb.2.1, hb⟩)
    kq := h.kq
    lq := fun e => hnew q e rfl
    kl := fun b hb e => by
      rcases hg.own b e with h1 | h1
      · exact h.kl b hb h1
      · have := (hlt6 b hb).2; omega
    len := ⟨h.len.1, by rw [insAt_len hi]; omega⟩
    kt := h.kt }
set_option maxHeartbeats 4000000 in
theorem dput_any {base q : Nat} {w : World} {ks : List (List UInt8)} {vs : List PV} {uK uL : Value} (h : DB base q w ks vs uK uL) {k : List UInt8} {cs : List Value} {x : PV} (hx : VAtP (okD base q uK uL) w cs x) (hkm : k.length ≤ 100) (hbase : base ≤ w.heap.size) {i0 : Nat} (hi : i0 ≤ ks.length) (hlen : ks.length = vs.length) (hl9 : vs.length < 100)
    (h1 : ∀ t (ht : t < ks.length), t < i0 → Op.bytesLess (str ks[t]).toList (str k).toList = true) (h2 : ∀ t (ht : t < ks.length), i0 ≤ t → Op.bytesLess (str ks[t]).toList (str k).toList = false) (hne : ∀ t (ht : t < ks.length), ((str ks[t]).toList == (str k).toList) = false) :
    Calls Tryd.prog 30 #[.pointer (some ⟨q, 0, none⟩), .string (str k), .agg cs.toArray] w fun e w' => ∃ uK' uL', e = .returned (.tuple #[]) ∧ DB base q w' (insAt ks i0 k) (insAt vs i0 x) uK' uL' ∧ Below base w w' := by
  have x6 : (List.toArray cs).size = 6 := hx.len
  have xo : OneC (List.toArray cs) := all_oneCell_toArray hx.one
  have hB5 : Blk (w.alloc (.cells (List.toArray cs) 30)) w.heap.size 30 cs := by simpa using Blk.new w 30 (List.toArray cs)
  have hb5 : Below w.heap.size w (w.alloc (.cells (List.toArray cs) 30)) := (Below.refl _ _).alloc (Nat.le_refl _) _
  have hD5 := h.grow hb5
  have hx5 := hx.grow hb5
  obtain ⟨ak, ck, hku, _, _, hkr, hko⟩ := owns_rowN h.K (by decide)
  subst hku
  obtain ⟨aL, cL, rfl⟩ : ∃ aL cL, uL = .slice aL vs.length cL := by
    obtain ⟨_, _, _, hO, _⟩ := h.L
    obtain ⟨a, c, e, _⟩ := owns_rowN hO (by decide)
    exact ⟨a, c, e⟩
  have c4 : (w.alloc (.cells (List.toArray cs) 30)).cell? ⟨q, 4, none⟩ = some (.slice ak ks.length ck) := hD5.B.cell rfl
  have hbs := bs_any (c := ck) (k := k) rfl (hkr.below hb5) (by have := h.len; omega) hi h1 h2 hne
  have HLEN := Lib.hid hlen
  clear h1 h2 hne hlen
  go_enter Tryd.func30, Tryd.ntmps30
  go_wp2_with fail
  refine hbs.mono ?_
  rintro e w2 ⟨rfl, hb2⟩
  have hD2 := hD5.grow hb2
  have hB52 := hB5.below hb2
  have hx2 := hx5.grow hb2
  have c42 : w2.cell? ⟨q, 4, none⟩ = some (.slice ak ks.length ck) := hD2.B.cell rfl
  have hbk : Below w2.heap.size w2 (w2.alloc (.cells #[.string (str k)] 9)) := (Below.refl _ _).alloc (Nat.le_refl _) _
  have hBk : Blk (w2.alloc (.cells #[.string (str k)] 9)) w2.heap.size 9 [strV k] := by simpa [strV] using Blk.new w2 9 #[.string (str k)]
  have hD3 := hD2.grow hbk
  have hx3 := hx2.grow hbk
  have hB53 := hB52.below hbk
  have hs0 : w.heap.size ≤ w2.heap.size := Nat.le_trans hb5.size hb2.size
  have hins := insS_any (g := w2.heap.size) (x := [strV k]) hD3.K (by have := hD3.len; omega) hi rfl (by intro v hv; simp at hv; subst hv; rfl) hBk (fun e => by have := (World.ownsRow.lt hD2.K _ e).2; omega) (fun v hv => by
    obtain ⟨y, _, rfl⟩ := List.mem_map.1 hv; rfl) (by have := hbk.size; omega)
  have hbw3 : Below w.heap.size w (w2.alloc (.cells #[.string (str k)] 9)) := Gr.trans hb5 (Gr.trans hb2 hbk)
  have hk3 : base ≤ (w2.alloc (.cells #[.string (str k)] 9)).heap.size := by have := hbk.size; omega
  have hplt : w.heap.size < (w2.alloc (.cells #[.string (str k)] 9)).heap.size := hB53.lt
  clear hbs hko hkr hD5 hx5 hB5 c4 hb5
  go_upto_region 2 with (fail)
  clear hD2 hB52 hx2 hBk hb2
  go_wp2_with fail
  refine hins.mono ?_
  rintro e w4 ⟨a4, c4, rfl, hO4, hG4⟩
  clear hins hbk
  generalize w2.alloc (.cells #[.string (str k)] 9) = w3 at *
  generalize hp : w.heap.size = p at *
  have hpq : p ≠ q := by have := h.B.lt; omega
  have hB54 := (hG4.blk hB53 (fun e => by
    have h1 := (World.ownsRow.lt h.K _ e).2
    omega)).1
  have hQ4 := (hG4.blk hD3.B hD3.kq).1
  have d4 : w4.cell? ⟨q, 4, none⟩ = some (.slice ak ks.length ck) := hQ4.cell rfl
  have f4 : w4.frozen? ⟨q, 4, none⟩ = false := blk_free hQ4
  have hD5 := hD3.addK (x := k) (by unfold maxLen; omega) hi (by have := HLEN.out; omega) hO4 hG4
  have hlL : ∀ b, (Value.slice aL vs.length cL).ownBlock = some b → base ≤ b ∧ b < w3.heap.size := by
    obtain ⟨_, _, _, hO, _⟩ := hD3.L
    exact fun b hb => World.ownsRow.lt hO b hb
  have hx5 : VAtP (okD base q (.slice a4 (ks.length + 1) c4) (.slice aL vs.length cL)) (w4.setCell ⟨q, 4, none⟩ (.slice a4 (ks.length + 1) c4)) cs x := by
    refine ((hx3.mono (ok' := fun b => okD base q (.slice ak ks.length ck) (.slice aL vs.length cL) b ∧ b < w3.heap.size) (fun b h1 h2 => ⟨h1, h2⟩)).same (fun b hb hlt => ?_)).mono (fun b hb _ => ?_)
    · rw [Below.heap_setCell w4 _ _ b hb.1.2.1]
      exact hG4.gr.block b hb.2 (fun e => hb.1.2.2.1 e.symm)
    · exact ⟨hb.1.1, hb.1.2.1, fun e => by
        rcases hG4.own b e with h1 | h1
        · exact hb.1.2.2.1 h1
        · omega, hb.1.2.2.2⟩
  have hB55 : Blk (w4.setCell ⟨q, 4, none⟩ (.slice a4 (ks.length + 1) c4)) p 30 cs := by
    unfold Blk
    rw [Below.heap_setCell w4 _ _ p hpq]; exact hB54
  have hbw5 : Below base w (w4.setCell ⟨q, 4, none⟩ (.slice a4 (ks.length + 1) c4)) :=
    ((hbw3.mono (by omega)).trans (hG4.below (base := base) (fun k hk => (World.ownsRow.lt hD3.K k hk).1) (Nat.le_refl _) hk3)).trans (set_below h.hq)
  have hs5 : w3.heap.size ≤ (w4.setCell ⟨q, 4, none⟩ (.slice a4 (ks.length + 1) c4)).heap.size := by simp; exact hG4.size
  clear hO4 hG4 hD3 hx3 hB53 hbw3 hB54 h hx
  go_upto_region 3 with (fail)
  generalize w4.setCell ⟨q, 4, none⟩ (.slice a4 (ks.length + 1) c4) = W5 at *
  have c55 : ∀ w', Mo (W5.drewN 1) w' → w'.cell? ⟨q, 5, none⟩ = some (.slice aL vs.length cL) := fun w' h => (hD5.B.below (Below.drewN' h)).cell rfl
  have q5 : ∀ w', Mo (W5.drewN 1) w' → (ldOp 30 (.pointer (some ⟨p, 0, none⟩))).run Tryd.prog w' = .ok (.agg (List.toArray cs)) w' := fun w' h => ldOp_all (P := Tryd.prog) (ty := 30) (hB55.below (Below.drewN' h)) Tryd.underlying30 rfl (by rw [hx5.len]; exact sizeV)
  have hlt5 : ∀ b, (Value.slice aL vs.length cL).ownBlock = some b → base ≤ b ∧ b < W5.heap.size := by
    obtain ⟨_, _, _, hO, _⟩ := hD5.L
    exact fun b hb => World.ownsRow.lt hO b hb
  clear d4 f4 hQ4 c42
  generalize (Value.slice (some ⟨w2.heap.size, 0, none⟩) 1 1) = BS1
  --REGION3
  have hSm : ∀ (L : Array Bool) (w1 w2 : World), ((L.getD 9 false = false ∨ L.getD 8 false = false) → Mo (W5.drewN 1) w1) → Mo w1 w2 → ((L.getD 9 false = false ∨ L.getD 8 false = false) → Mo (W5.drewN 1) w2) := fun _ w1 w2 h hm h9 => Mo.trans (h h9) hm
  have hSi : ∀ i, (i ≠ 9 ∧ i ≠ 8) → ∀ (L : Array Bool) (w1 : World), (((L.setIfInBounds i true).getD 9 false = false ∨ (L.setIfInBounds i true).getD 8 false = false) → Mo (W5.drewN 1) w1) ↔ ((L.getD 9 false = false ∨ L.getD 8 false = false) → Mo (W5.drewN 1) w1) := fun i hi L w1 => by rw [getD_set_ne false hi.1, getD_set_ne false hi.2]
  have hS0 : ∀ L : Array Bool, ((L.getD 9 false = false ∨ L.getD 8 false = false) → Mo (W5.drewN 1) (W5.drewN 1)) := fun _ _ => Mo.refl _
  refine wp_region_upN (S := fun L w1 => ((L.getD 9 false = false ∨ L.getD 8 false = false) → Mo (W5.drewN 1) w1)) 14 rfl (by kernel_rfl) ?_
  refine wpAnyU_take (i := 0) (A := fun _ => True) (v := .pointer (some ⟨q, 0, none⟩)) (a' := ⟨#[.pointer (some ⟨q, 0, none⟩), .string (str k), .agg (List.toArray cs), undef, undef, .pointer (some ⟨p, 0, none⟩), .int .i64 (i0 : Int), .bool false, .tuple #[.int .i64 (i0 : Int), .bool false], .pointer (some ⟨q, 0, none⟩), .pointer (some ⟨q, 0, none⟩), .pointer (some ⟨q, 0, none⟩), .pointer (some ⟨q, 4, none⟩), .slice ak ks.length ck, .string (str k), .tuple #[.int .i64 (i0 : Int), .bool false], .int .i64 (i0 : Int), .bool false, .pointer (some ⟨q, 0, none⟩), .pointer (some ⟨q, 0, none⟩), .pointer (some ⟨q, 0, none⟩), .pointer (some ⟨q, 0, none⟩), .pointer (some ⟨q, 4, none⟩), .slice ak ks.length ck, .int .i64 (i0 : Int), .string (str k), BS1, .slice a4 (ks.length + 1) c4, .pointer (some ⟨q, 0, none⟩), .pointer (some ⟨q, 0, none⟩), .pointer (some ⟨q, 4, none⟩), .pointer (some ⟨q, 0, none⟩), undef, undef, undef, undef, undef, undef, undef, undef, undef, undef, undef, undef], []⟩) hSm (hSi 0 (by decide)) (fun _ _ _ => trivial) rfl (by kernel_rfl) (by kernel_rfl) (by kernel_rfl) (fun _ _ _ h => h) (hS0 _) (Tame.val rfl (fun w' hA => by go_simp)) rfl ?_
  refine wpAnyU_take (i := 1) (A := fun _ => True) (v := .pointer (some ⟨q, 0, none⟩)) (a' := ⟨#[.pointer (some ⟨q, 0, none⟩), .string (str k), .agg (List.toArray cs), undef, undef, .pointer (some ⟨p, 0, none⟩), .int .i64 (i0 : Int), .bool false, .tuple #[.int .i64 (i0 : Int), .bool false], .pointer (some ⟨q, 0, none⟩), .pointer (some ⟨q, 0, none⟩), .pointer (some ⟨q, 0, none⟩), .pointer (some ⟨q, 4, none⟩), .slice ak ks.length ck, .string (str k), .tuple #[.int .i64 (i0 : Int), .bool false], .int .i64 (i0 : Int), .bool false, .pointer (some ⟨q, 0, none⟩), .pointer (some ⟨q, 0, none⟩), .pointer (some ⟨q, 0, none⟩), .pointer (some ⟨q, 0, none⟩), .pointer (some ⟨q, 4, none⟩), .slice ak ks.length ck, .int .i64 (i0 : Int), .string (str k), BS1, .slice a4 (ks.length + 1) c4, .pointer (some ⟨q, 0, none⟩), .pointer (some ⟨q, 0, none⟩), .pointer (some ⟨q, 4, none⟩), .pointer (some ⟨q, 0, none⟩), .pointer (some ⟨q, 0, none⟩), undef, undef, undef, undef, undef, undef, undef, undef, undef, undef, undef], []⟩) hSm (hSi 1 (by decide)) (fun _ _ _ => trivial) rfl (by kernel_rfl) (by kernel_rfl) (by kernel_rfl) (fun _ _ _ h => h) (hS0 _) (Tame.val rfl (fun w' hA => by go_simp)) rfl ?_
  refine wpAnyU_take (i := 2) (A := fun _ => True) (v := .pointer (some ⟨q, 0, none⟩)) (a' := ⟨#[.pointer (some ⟨q, 0, none⟩), .string (str k), .agg (List.toArray cs), undef, undef, .pointer (some ⟨p, 0, none⟩), .int .i64 (i0 : Int), .bool false, .tuple #[.int .i64 (i0 : Int), .bool false], .pointer (some ⟨q, 0, none⟩), .pointer (some ⟨q, 0, none⟩), .pointer (some ⟨q, 0, none⟩), .pointer (some ⟨q, 4, none⟩), .slice ak ks.length ck, .string (str k), .tuple #[.int .i64 (i0 : Int), .bool false], .int .i64 (i0 : Int), .bool false, .pointer (some ⟨q, 0, none⟩), .pointer (some ⟨q, 0, none⟩), .pointer (some ⟨q, 0, none⟩), .pointer (some ⟨q, 0, none⟩), .pointer (some ⟨q, 4, none⟩), .slice ak ks.length ck, .int .i64 (i0 : Int), .string (str k), BS1, .slice a4 (ks.length + 1) c4, .pointer (some ⟨q, 0, none⟩), .pointer (some ⟨q, 0, none⟩), .pointer (some ⟨q, 4, none⟩), .pointer (some ⟨q, 0, none⟩), .pointer (some ⟨q, 0, none⟩), .pointer (some ⟨q, 0, none⟩), undef, undef, undef, undef, undef, undef, undef, undef, undef, undef], []⟩) hSm (hSi 2 (by decide)) (fun _ _ _ => trivial) rfl (by kernel_rfl) (by kernel_rfl) (by kernel_rfl) (fun _ _ _ h => h) (hS0 _) (Tame.val rfl (fun w' hA => by go_simp)) rfl ?_
  refine wpAnyU_take (i := 3) (A := fun _ => True) (v := .pointer (some ⟨q, 0, none⟩)) (a' := ⟨#[.pointer (some ⟨q, 0, none⟩), .string (str k), .agg (List.toArray cs), undef, undef, .pointer (some ⟨p, 0, none⟩), .int .i64 (i0 : Int), .bool false, .tuple #[.int .i64 (i0 : Int), .bool false], .pointer (some ⟨q, 0, none⟩), .pointer (some ⟨q, 0, none⟩), .pointer (some ⟨q, 0, none⟩), .pointer (some ⟨q, 4, none⟩), .slice ak ks.length ck, .string (str k), .tuple #[.int .i64 (i0 : Int), .bool false], .int .i64 (i0 : Int), .bool false, .pointer (some ⟨q, 0, none⟩), .pointer (some ⟨q, 0, none⟩), .pointer (some ⟨q, 0, none⟩), .pointer (some ⟨q, 0, none⟩), .pointer (some ⟨q, 4, none⟩), .slice ak ks.length ck, .int .i64 (i0 : Int), .string (str k), BS1, .slice a4 (ks.length + 1) c4, .pointer (some ⟨q, 0, none⟩), .pointer (some ⟨q, 0, none⟩), .pointer (some ⟨q, 4, none⟩), .pointer (some ⟨q, 0, none⟩), .pointer (some ⟨q, 0, none⟩), .pointer (some ⟨q, 0, none⟩), .pointer (some ⟨q, 0, none⟩), undef, undef, undef, undef, undef, undef, undef, undef, undef], []⟩) hSm (hSi 3 (by decide)) (fun _ _ _ => trivial) rfl (by kernel_rfl) (by kernel_rfl) (by kernel_rfl) (fun _ _ _ h => h) (hS0 _) (Tame.val rfl (fun w' hA => by go_simp)) rfl ?_
  refine wpAnyU_take (i := 4) (A := fun _ => True) (v := .pointer (some ⟨q, 5, none⟩)) (a' := ⟨#[.pointer (some ⟨q, 0, none⟩), .string (str k), .agg (List.toArray cs), undef, undef, .pointer (some ⟨p, 0, none⟩), .int .i64 (i0 : Int), .bool false, .tuple #[.int .i64 (i0 : Int), .bool false], .pointer (some ⟨q, 0, none⟩), .pointer (some ⟨q, 0, none⟩), .pointer (some ⟨q, 0, none⟩), .pointer (some ⟨q, 4, none⟩), .slice ak ks.length ck, .string (str k), .tuple #[.int .i64 (i0 : Int), .bool false], .int .i64 (i0 : Int), .bool false, .pointer (some ⟨q, 0, none⟩), .pointer (some ⟨q, 0, none⟩), .pointer (some ⟨q, 0, none⟩), .pointer (some ⟨q, 0, none⟩), .pointer (some ⟨q, 4, none⟩), .slice ak ks.length ck, .int .i64 (i0 : Int), .string (str k), BS1, .slice a4 (ks.length + 1) c4, .pointer (some ⟨q, 0, none⟩), .pointer (some ⟨q, 0, none⟩), .pointer (some ⟨q, 4, none⟩), .pointer (some ⟨q, 0, none⟩), .pointer (some ⟨q, 0, none⟩), .pointer (some ⟨q, 0, none⟩), .pointer (some ⟨q, 0, none⟩), .pointer (some ⟨q, 5, none⟩), undef, undef, undef, undef, undef, undef, undef, undef], []⟩) hSm (hSi 4 (by decide)) (fun _ _ _ => trivial) rfl (by kernel_rfl) (by kernel_rfl) (by kernel_rfl) (fun _ _ _ h => h) (hS0 _) (Tame.val rfl (fun w' hA => by go_simp)) rfl ?_
  refine wpAnyU_takeK (i := 5) 9 (A := fun w1 => Mo (W5.drewN 1) w1) (v := .slice aL vs.length cL) (a' := ⟨#[.pointer (some ⟨q, 0, none⟩), .string (str k), .agg (List.toArray cs), undef, undef, .pointer (some ⟨p, 0, none⟩), .int .i64 (i0 : Int), .bool false, .tuple #[.int .i64 (i0 : Int), .bool false], .pointer (some ⟨q, 0, none⟩), .pointer (some ⟨q, 0, none⟩), .pointer (some ⟨q, 0, none⟩), .pointer (some ⟨q, 4, none⟩), .slice ak ks.length ck, .string (str k), .tuple #[.int .i64 (i0 : Int), .bool false], .int .i64 (i0 : Int), .bool false, .pointer (some ⟨q, 0, none⟩), .pointer (some ⟨q, 0, none⟩), .pointer (some ⟨q, 0, none⟩), .pointer (some ⟨q, 0, none⟩), .pointer (some ⟨q, 4, none⟩), .slice ak ks.length ck, .int .i64 (i0 : Int), .string (str k), BS1, .slice a4 (ks.length + 1) c4, .pointer (some ⟨q, 0, none⟩), .pointer (some ⟨q, 0, none⟩), .pointer (some ⟨q, 4, none⟩), .pointer (some ⟨q, 0, none⟩), .pointer (some ⟨q, 0, none⟩), .pointer (some ⟨q, 0, none⟩), .pointer (some ⟨q, 0, none⟩), .pointer (some ⟨q, 5, none⟩), .slice aL vs.length cL, undef, undef, undef, undef, undef, undef, undef], []⟩) hSm (hSi 5 (by decide)) (fun _ _ h hk => h (.inl hk)) rfl rfl (by kernel_rfl) (by kernel_rfl) (by kernel_rfl) (by kernel_rfl) (by kernel_rfl) (fun _ _ _ h => h) (hS0 _) (Tame.val rfl (fun w' hA => by have h1 := c55 w' hA; go_simp)) rfl ?_
  refine wpAnyU_take (i := 6) (A := fun _ => True) (v := .int .i64 (i0 : Int)) (a' := ⟨#[.pointer (some ⟨q, 0, none⟩), .string (str k), .agg (List.toArray cs), undef, undef, .pointer (some ⟨p, 0, none⟩), .int .i64 (i0 : Int), .bool false, .tuple #[.int .i64 (i0 : Int), .bool false], .pointer (some ⟨q, 0, none⟩), .pointer (some ⟨q, 0, none⟩), .pointer (some ⟨q, 0, none⟩), .pointer (some ⟨q, 4, none⟩), .slice ak ks.length ck, .string (str k), .tuple #[.int .i64 (i0 : Int), .bool false], .int .i64 (i0 : Int), .bool false, .pointer (some ⟨q, 0, none⟩), .pointer (some ⟨q, 0, none⟩), .pointer (some ⟨q, 0, none⟩), .pointer (some ⟨q, 0, none⟩), .pointer (some ⟨q, 4, none⟩), .slice ak ks.length ck, .int .i64 (i0 : Int), .string (str k), BS1, .slice a4 (ks.length + 1) c4, .pointer (some ⟨q, 0, none⟩), .pointer (some ⟨q, 0, none⟩), .pointer (some ⟨q, 4, none⟩), .pointer (some ⟨q, 0, none⟩), .pointer (some ⟨q, 0, none⟩), .pointer (some ⟨q, 0, none⟩), .pointer (some ⟨q, 0, none⟩), .pointer (some ⟨q, 5, none⟩), .slice aL vs.length cL, .int .i64 (i0 : Int), undef, undef, undef, undef, undef, undef], []⟩) hSm (hSi 6 (by decide)) (fun _ _ _ => trivial) rfl (by kernel_rfl) (by kernel_rfl) (by kernel_rfl) (fun _ _ _ h => h) (hS0 _) (Tame.val rfl (fun w' hA => by go_simp)) rfl ?_
  refine wpAnyU_takeK (i := 7) 8 (A := fun w1 => Mo (W5.drewN 1) w1) (v := .agg (List.toArray cs)) (a' := ⟨#[.pointer (some ⟨q, 0, none⟩), .string (str k), .agg (List.toArray cs), undef, undef, .pointer (some ⟨p, 0, none⟩), .int .i64 (i0 : Int), .bool false, .tuple #[.int .i64 (i0 : Int), .bool false], .pointer (some ⟨q, 0, none⟩), .pointer (some ⟨q, 0, none⟩), .pointer (some ⟨q, 0, none⟩), .pointer (some ⟨q, 4, none⟩), .slice ak ks.length ck, .string (str k), .tuple #[.int .i64 (i0 : Int), .bool false], .int .i64 (i0 : Int), .bool false, .pointer (some ⟨q, 0, none⟩), .pointer (some ⟨q, 0, none⟩), .pointer (some ⟨q, 0, none⟩), .pointer (some ⟨q, 0, none⟩), .pointer (some ⟨q, 4, none⟩), .slice ak ks.length ck, .int .i64 (i0 : Int), .string (str k), BS1, .slice a4 (ks.length + 1) c4, .pointer (some ⟨q, 0, none⟩), .pointer (some ⟨q, 0, none⟩), .pointer (some ⟨q, 4, none⟩), .pointer (some ⟨q, 0, none⟩), .pointer (some ⟨q, 0, none⟩), .pointer (some ⟨q, 0, none⟩), .pointer (some ⟨q, 0, none⟩), .pointer (some ⟨q, 5, none⟩), .slice aL vs.length cL, .int .i64 (i0 : Int), .agg (List.toArray cs), undef, undef, undef, undef, undef], []⟩) hSm (hSi 7 (by decide)) (fun _ _ h hk => h (.inr hk)) rfl rfl (by kernel_rfl) (by kernel_rfl) (by kernel_rfl) (by kernel_rfl) (by kernel_rfl) (fun _ _ _ h => h) (hS0 _) (Tame.val rfl (fun w' hA => run_ldOp (q5 w' hA))) rfl ?_
  refine wpAnyU_all (rs := [8]) (by kernel_rfl) (by decide) ?_
  intro wa hma i hi
  obtain rfl : i = 8 := by simpa using hi
  refine wpOp_val (v := .slice (some ⟨wa.heap.size, 0, none⟩) 1 1) (w' := wa.alloc (.cells (List.toArray cs) 30)) (a' := ⟨#[.pointer (some ⟨q, 0, none⟩), .string (str k), .agg (List.toArray cs), undef, undef, .pointer (some ⟨p, 0, none⟩), .int .i64 (i0 : Int), .bool false, .tuple #[.int .i64 (i0 : Int), .bool false], .pointer (some ⟨q, 0, none⟩), .pointer (some ⟨q, 0, none⟩), .pointer (some ⟨q, 0, none⟩), .pointer (some ⟨q, 4, none⟩), .slice ak ks.length ck, .string (str k), .tuple #[.int .i64 (i0 : Int), .bool false], .int .i64 (i0 : Int), .bool false, .pointer (some ⟨q, 0, none⟩), .pointer (some ⟨q, 0, none⟩), .pointer (some ⟨q, 0, none⟩), .pointer (some ⟨q, 0, none⟩), .pointer (some ⟨q, 4, none⟩), .slice ak ks.length ck, .int .i64 (i0 : Int), .string (str k), BS1, .slice a4 (ks.length + 1) c4, .pointer (some ⟨q, 0, none⟩), .pointer (some ⟨q, 0, none⟩), .pointer (some ⟨q, 4, none⟩), .pointer (some ⟨q, 0, none⟩), .pointer (some ⟨q, 0, none⟩), .pointer (some ⟨q, 0, none⟩), .pointer (some ⟨q, 0, none⟩), .pointer (some ⟨q, 5, none⟩), .slice aL vs.length cL, .int .i64 (i0 : Int), .agg (List.toArray cs), .slice (some ⟨wa.heap.size, 0, none⟩) 1 1, undef, undef, undef, undef], []⟩) rfl rfl (run_bsOp (vals := #[(0, .agg (List.toArray cs))]) (by first | rfl | go_simp | simp [Act.eval]) (r_bsV1 x6)) rfl ?_
  have hb6 : Mo wa (wa.alloc (.cells (List.toArray cs) 30)) := (Below.refl _ _).alloc (Nat.le_refl _) _
  have hB6 : Blk (wa.alloc (.cells (List.toArray cs) 30)) wa.heap.size 30 cs := by simpa using Blk.new wa 30 (List.toArray cs)
  have hM6 := Mo.trans hma hb6
  refine ⟨fun _ => hM6, ?_⟩
  have hwa : W5.heap.size ≤ wa.heap.size := hma.size'
  generalize wa.alloc (.cells (List.toArray cs) 30) = wb at *
  generalize wa.heap.size = g6 at *
  refine wpAnyU_all (rs := [9]) (by kernel_rfl) (by decide) ?_
  intro w6 hmb i hi
  obtain rfl : i = 9 := by simpa using hi
  have hb56 : Below W5.heap.size W5 w6 := Below.drewN' (Mo.trans hM6 hmb)
  have hD6 := hD5.grow hb56
  have hx6 := hx5.grow hb56
  obtain ⟨css, hc1, hc2, hO6, hel⟩ := hD6.L
  have hone : ∀ v ∈ css.flatten, v.oneCell' = true := by
    intro v hv
    obtain ⟨d, hd, hv⟩ := List.mem_flatten.1 hv
    obtain ⟨j, hj, rfl⟩ := List.mem_iff_getElem.1 hd
    exact (hel j css[j] vs[j] (by simp [hj]) (by simp [← hc1, hj])).one v hv
  have hinv := insV_any (g := g6) (x := cs) hO6 (by have := hD6.len; omega) (i := i0) (by have := HLEN.out; omega) hx6.len hx6.one (hB6.below hmb) (fun e => by have h1 := (hlt5 _ e).2; omega) hone (by have h1 := hb56.size; omega)
  have hbw6 : Below base w w6 := hbw5.trans (hb56.mono (by omega))
  have hs6 : base ≤ w6.heap.size := by have h1 := hb56.size; omega
  refine wpOp_enter (f := 58) (args := #[.slice aL vs.length cL, .int .i64 (i0 : Int), .slice (some ⟨g6, 0, none⟩) 1 1]) rfl rfl (by go_simp) (hinv.mono ?_)
  rintro e w7 ⟨a7, c7, rfl, hO7, hG7⟩
  refine ⟨_, rfl, ?_⟩
  show _ ∧ wpAnyU _ _ _ _ _ _ _ (⟨#[.pointer (some ⟨q, 0, none⟩), .string (str k), .agg (List.toArray cs), undef, undef, .pointer (some ⟨p, 0, none⟩), .int .i64 (i0 : Int), .bool false, .tuple #[.int .i64 (i0 : Int), .bool false], .pointer (some ⟨q, 0, none⟩), .pointer (some ⟨q, 0, none⟩), .pointer (some ⟨q, 0, none⟩), .pointer (some ⟨q, 4, none⟩), .slice ak ks.length ck, .string (str k), .tuple #[.int .i64 (i0 : Int), .bool false], .int .i64 (i0 : Int), .bool false, .pointer (some ⟨q, 0, none⟩), .pointer (some ⟨q, 0, none⟩), .pointer (some ⟨q, 0, none⟩), .pointer (some ⟨q, 0, none⟩), .pointer (some ⟨q, 4, none⟩), .slice ak ks.length ck, .int .i64 (i0 : Int), .string (str k), BS1, .slice a4 (ks.length + 1) c4, .pointer (some ⟨q, 0, none⟩), .pointer (some ⟨q, 0, none⟩), .pointer (some ⟨q, 4, none⟩), .pointer (some ⟨q, 0, none⟩), .pointer (some ⟨q, 0, none⟩), .pointer (some ⟨q, 0, none⟩), .pointer (some ⟨q, 0, none⟩), .pointer (some ⟨q, 5, none⟩), .slice aL vs.length cL, .int .i64 (i0 : Int), .agg (List.toArray cs), .slice (some ⟨g6, 0, none⟩) 1 1, .slice a7 (vs.length + 1) c7, undef, undef, undef], []⟩ : Act) _
  refine ⟨fun h => absurd h (by decide), ?_⟩
  refine wpAnyU_take (i := 10) (A := fun _ => True) (v := .pointer (some ⟨q, 0, none⟩)) (a' := ⟨#[.pointer (some ⟨q, 0, none⟩), .string (str k), .agg (List.toArray cs), undef, undef, .pointer (some ⟨p, 0, none⟩), .int .i64 (i0 : Int), .bool false, .tuple #[.int .i64 (i0 : Int), .bool false], .pointer (some ⟨q, 0, none⟩), .pointer (some ⟨q, 0, none⟩), .pointer (some ⟨q, 0, none⟩), .pointer (some ⟨q, 4, none⟩), .slice ak ks.length ck, .string (str k), .tuple #[.int .i64 (i0 : Int), .bool false], .int .i64 (i0 : Int), .bool false, .pointer (some ⟨q, 0, none⟩), .pointer (some ⟨q, 0, none⟩), .pointer (some ⟨q, 0, none⟩), .pointer (some ⟨q, 0, none⟩), .pointer (some ⟨q, 4, none⟩), .slice ak ks.length ck, .int .i64 (i0 : Int), .string (str k), BS1, .slice a4 (ks.length + 1) c4, .pointer (some ⟨q, 0, none⟩), .pointer (some ⟨q, 0, none⟩), .pointer (some ⟨q, 4, none⟩), .pointer (some ⟨q, 0, none⟩), .pointer (some ⟨q, 0, none⟩), .pointer (some ⟨q, 0, none⟩), .pointer (some ⟨q, 0, none⟩), .pointer (some ⟨q, 5, none⟩), .slice aL vs.length cL, .int .i64 (i0 : Int), .agg (List.toArray cs), .slice (some ⟨g6, 0, none⟩) 1 1, .slice a7 (vs.length + 1) c7, .pointer (some ⟨q, 0, none⟩), undef, undef], []⟩) hSm (hSi 10 (by decide)) (fun _ _ _ => trivial) rfl (by kernel_rfl) (by kernel_rfl) (by kernel_rfl) (fun _ _ _ h => h) (fun h => absurd h (by decide)) (Tame.val rfl (fun w' hA => by go_simp)) rfl ?_
  refine wpAnyU_take (i := 11) (A := fun _ => True) (v := .pointer (some ⟨q, 0, none⟩)) (a' := ⟨#[.pointer (some ⟨q, 0, none⟩), .string (str k), .agg (List.toArray cs), undef, undef, .pointer (some ⟨p, 0, none⟩), .int .i64 (i0 : Int), .bool false, .tuple #[.int .i64 (i0 : Int), .bool false], .pointer (some ⟨q, 0, none⟩), .pointer (some ⟨q, 0, none⟩), .pointer (some ⟨q, 0, none⟩), .pointer (some ⟨q, 4, none⟩), .slice ak ks.length ck, .string (str k), .tuple #[.int .i64 (i0 : Int), .bool false], .int .i64 (i0 : Int), .bool false, .pointer (some ⟨q, 0, none⟩), .pointer (some ⟨q, 0, none⟩), .pointer (some ⟨q, 0, none⟩), .pointer (some ⟨q, 0, none⟩), .pointer (some ⟨q, 4, none⟩), .slice ak ks.length ck, .int .i64 (i0 : Int), .string (str k), BS1, .slice a4 (ks.length + 1) c4, .pointer (some ⟨q, 0, none⟩), .pointer (some ⟨q, 0, none⟩), .pointer (some ⟨q, 4, none⟩), .pointer (some ⟨q, 0, none⟩), .pointer (some ⟨q, 0, none⟩), .pointer (some ⟨q, 0, none⟩), .pointer (some ⟨q, 0, none⟩), .pointer (some ⟨q, 5, none⟩), .slice aL vs.length cL, .int .i64 (i0 : Int), .agg (List.toArray cs), .slice (some ⟨g6, 0, none⟩) 1 1, .slice a7 (vs.length + 1) c7, .pointer (some ⟨q, 0, none⟩), .pointer (some ⟨q, 0, none⟩), undef], []⟩) hSm (hSi 11 (by decide)) (fun _ _ _ => trivial) rfl (by kernel_rfl) (by kernel_rfl) (by kernel_rfl) (fun _ _ _ h => h) (fun h => absurd h (by decide)) (Tame.val rfl (fun w' hA => by go_simp)) rfl ?_
  refine wpAnyU_take (i := 12) (A := fun _ => True) (v := .pointer (some ⟨q, 5, none⟩)) (a' := ⟨#[.pointer (some ⟨q, 0, none⟩), .string (str k), .agg (List.toArray cs), undef, undef, .pointer (some ⟨p, 0, none⟩), .int .i64 (i0 : Int), .bool false, .tuple #[.int .i64 (i0 : Int), .bool false], .pointer (some ⟨q, 0, none⟩), .pointer (some ⟨q, 0, none⟩), .pointer (some ⟨q, 0, none⟩), .pointer (some ⟨q, 4, none⟩), .slice ak ks.length ck, .string (str k), .tuple #[.int .i64 (i0 : Int), .bool false], .int .i64 (i0 : Int), .bool false, .pointer (some ⟨q, 0, none⟩), .pointer (some ⟨q, 0, none⟩), .pointer (some ⟨q, 0, none⟩), .pointer (some ⟨q, 0, none⟩), .pointer (some ⟨q, 4, none⟩), .slice ak ks.length ck, .int .i64 (i0 : Int), .string (str k), BS1, .slice a4 (ks.length + 1) c4, .pointer (some ⟨q, 0, none⟩), .pointer (some ⟨q, 0, none⟩), .pointer (some ⟨q, 4, none⟩), .pointer (some ⟨q, 0, none⟩), .pointer (some ⟨q, 0, none⟩), .pointer (some ⟨q, 0, none⟩), .pointer (some ⟨q, 0, none⟩), .pointer (some ⟨q, 5, none⟩), .slice aL vs.length cL, .int .i64 (i0 : Int), .agg (List.toArray cs), .slice (some ⟨g6, 0, none⟩) 1 1, .slice a7 (vs.length + 1) c7, .pointer (some ⟨q, 0, none⟩), .pointer (some ⟨q, 0, none⟩), .pointer (some ⟨q, 5, none⟩)], []⟩) hSm (hSi 12 (by decide)) (fun _ _ _ => trivial) rfl (by kernel_rfl) (by kernel_rfl) (by kernel_rfl) (fun _ _ _ h => h) (fun h => absurd h (by decide)) (Tame.val rfl (fun w' hA => by go_simp)) rfl ?_
  have hQ7 := (hG7.blk hD6.B hD6.lq).1
  have hV7 := VsAt.ins (ok' := okD base q (.slice a4 (ks.length + 1) c4) (.slice a7 (vs.length + 1) c7)) hc1 hc2 hel (i := i0) (by have := HLEN.out; omega) hx6 (fun b hb => hb.2.2.2) (fun b hb hlt => ⟨hb.1, hb.2.1, hb.2.2.1, fun e => by
    rcases hG7.own b e with h1 | h1
    · exact hb.2.2.2 h1
    · omega⟩) hG7 hO7
  have hbf7 : Below base w w7 := hbw6.trans (hG7.below (base := base) (fun k hk => (World.ownsRow.lt hO6 k hk).1) (Nat.le_refl _) hs6)
  have hqb := hD6.hq
  have hfin7 := hD6.addL (by have := HLEN.out; omega) hl9 hV7 hG7
  refine wpAnyU_all (rs := [13]) (by kernel_rfl) (by decide) ?_
  intro w8 hm8 i hi
  obtain rfl : i = 13 := by simpa using hi
  have hQ8 := hQ7.below hm8
  have d8 : w8.cell? ⟨q, 5, none⟩ = some (.slice aL vs.length cL) := hQ8.cell rfl
  have f8 : w8.frozen? ⟨q, 5, none⟩ = false := blk_free hQ8
  have hG8 : Gro w6 w8 (.slice aL vs.length cL) (.slice a7 (vs.length + 1) c7) := hG7.trans (Gro.ofBelow hm8)
  have hfin8 := hD6.addL (by have := HLEN.out; omega) hl9 (hV7.same hm8.size' (fun b hb => hm8.block b (by
    obtain ⟨_, _, _, hO, _⟩ := hV7
    exact (World.ownsRow.lt hO b hb).2)) (fun b hb hlt => ⟨hm8.block b hlt, hb⟩)) hG8
  have hbf8 : Below base w (w8.setCell ⟨q, 5, none⟩ (.slice a7 (vs.length + 1) c7)) := (hbf7.trans (hm8.mono (by have h1 := hG7.size; omega))).trans (set_below hqb)
  refine wpOp_skip (w' := w8.setCell ⟨q, 5, none⟩ (.slice a7 (vs.length + 1) c7)) (a' := ⟨#[.pointer (some ⟨q, 0, none⟩), .string (str k), .agg (List.toArray cs), undef, undef, .pointer (some ⟨p, 0, none⟩), .int .i64 (i0 : Int), .bool false, .tuple #[.int .i64 (i0 : Int), .bool false], .pointer (some ⟨q, 0, none⟩), .pointer (some ⟨q, 0, none⟩), .pointer (some ⟨q, 0, none⟩), .pointer (some ⟨q, 4, none⟩), .slice ak ks.length ck, .string (str k), .tuple #[.int .i64 (i0 : Int), .bool false], .int .i64 (i0 : Int), .bool false, .pointer (some ⟨q, 0, none⟩), .pointer (some ⟨q, 0, none⟩), .pointer (some ⟨q, 0, none⟩), .pointer (some ⟨q, 0, none⟩), .pointer (some ⟨q, 4, none⟩), .slice ak ks.length ck, .int .i64 (i0 : Int), .string (str k), BS1, .slice a4 (ks.length + 1) c4, .pointer (some ⟨q, 0, none⟩), .pointer (some ⟨q, 0, none⟩), .pointer (some ⟨q, 4, none⟩), .pointer (some ⟨q, 0, none⟩), .pointer (some ⟨q, 0, none⟩), .pointer (some ⟨q, 0, none⟩), .pointer (some ⟨q, 0, none⟩), .pointer (some ⟨q, 5, none⟩), .slice aL vs.length cL, .int .i64 (i0 : Int), .agg (List.toArray cs), .slice (some ⟨g6, 0, none⟩) 1 1, .slice a7 (vs.length + 1) c7, .pointer (some ⟨q, 0, none⟩), .pointer (some ⟨q, 0, none⟩), .pointer (some ⟨q, 5, none⟩)], []⟩) rfl rfl (by go_simp) rfl ?_
  refine ⟨fun h => absurd h (by decide), ?_⟩
  refine wpAnyU_done (by kernel_rfl) ?_ _
  intro wz hmz
  have hfin := hfin8.grow hmz
  have hbf : Below base w wz := hbf8.trans (hmz.mono (by have h1 := hG8.size; simp; omega))
  go_wp2
  go_end0
  exact ⟨rfl, ⟨_, _, hfin⟩, hbf⟩
  --END3
end Go.Proofs.YtpchogicdnfggaaDoor
