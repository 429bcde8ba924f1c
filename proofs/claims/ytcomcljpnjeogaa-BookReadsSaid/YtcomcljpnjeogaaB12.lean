/- The walk of layer 13's (kind).rows. -/
import Derived.Test.YtcomcljpnjeogaaB11
import Derived.Test.YtcomcljpnjeogaaW7
import Derived.Test.YtcomcljpnjeogaaLib3
import Derived.Deep.RegionLaw
import Derived.Deep.DeepCutAuto
set_option maxRecDepth 20000
namespace Go.Proofs.Ytcomcljpnjeogaa
open Go.RowKit Go.Hd
attribute [local go_sem ↓] h_ldID h_stID h_alID h_ldROW h_stROW h_alROW h_bdROW h_bsROW h_ap
attribute [local go_sem] r_ldID r_stID r_s2ID r_alID r_ldROW r_stROW r_s2ROW r_alROW r_bsROW r_ap
variable {B : Nat}

theorem num_n {w : World} {g n : Nat} {l : List UInt8} (h : RdAt B w g l 0) (h1 : 1 ≤ n) (h8 : n ≤ 8) (hl : n ≤ l.length) :
    Calls Try.prog 61 #[.pointer (some ⟨g, 0, none⟩), .int .i64 n] w fun r w' => r = .returned (.int .u64 (getL (l.take n) : Int)) ∧ RdAt B w' g (l.drop n) 0 ∧ w.grownBy w' (some g) := by
  have e1 : numE 0 (n : Int) = 0 := if_neg (by omega)
  have e2 : rdGot l 0 (n : Int) = l.take n := by unfold rdGot; rw [if_neg (by simp; omega)]; rfl
  have e3 : rdRest l 0 (n : Int) = l.drop n := by unfold rdRest; rw [if_neg (by simp; omega)]; rfl
  have e4 : rdErr l 0 (n : Int) = 0 := by unfold rdErr; rw [if_neg (by simp), if_neg (by omega), if_neg (by omega)]
  have e5 : gV (l.take n) = getL (l.take n) := if_pos (by simp; omega)
  refine (num_any (n := n) h).mono ?_
  rintro e w' ⟨rfl, h1, h2⟩
  rw [e1] at h1 ⊢
  rw [e2, e5]
  rw [e3, e4] at h1
  exact ⟨rfl, h1, h2⟩
theorem bytes_n {w : World} {g n : Nat} {l : List UInt8} (h : RdAt B w g l 0) (hl : n ≤ l.length) (hm : l.length ≤ 140737488355328) :
    Calls Try.prog 78 #[.pointer (some ⟨g, 0, none⟩), .int .i64 n] w fun r w' => ∃ v, r = .returned v ∧ Own 5 w' w.heap.size v (l.take n) ∧ RdAt B w' g (l.drop n) 0 ∧ w.grownBy w' (some g) := by
  have e2 : rdGot l 0 (n : Int) = l.take n := by unfold rdGot; rw [if_neg (by simp; omega)]; rfl
  have e3 : rdRest l 0 (n : Int) = l.drop n := by unfold rdRest; rw [if_neg (by simp; omega)]; rfl
  have e4 : rdErr l 0 (n : Int) = 0 := by unfold rdErr; rw [if_neg (by simp), if_neg (by omega), if_neg (by omega)]
  refine (bytes_any (n := n) h hm).mono ?_
  rintro e w' ⟨v, rfl, h0, h1, h2⟩
  rw [e2] at h0
  rw [e3, e4] at h1
  exact ⟨v, rfl, h0, h1, h2⟩
theorem text_n {w : World} {g n : Nat} {l : List UInt8} (h : RdAt B w g l 0) (hl : n ≤ l.length) :
    Calls Try.prog 60 #[.pointer (some ⟨g, 0, none⟩), .int .i64 n] w fun r w' => r = .returned (.string (str (l.take n))) ∧ RdAt B w' g (l.drop n) 0 ∧ w.grownBy w' (some g) := by
  have e2 : rdGot l 0 (n : Int) = l.take n := by unfold rdGot; rw [if_neg (by simp; omega)]; rfl
  have e3 : rdRest l 0 (n : Int) = l.drop n := by unfold rdRest; rw [if_neg (by simp; omega)]; rfl
  have e4 : rdErr l 0 (n : Int) = 0 := by unfold rdErr; rw [if_neg (by simp), if_neg (by omega), if_neg (by omega)]
  refine (text_any (n := n) h).mono ?_
  rintro e w' ⟨rfl, h1, h2⟩
  rw [e2]
  rw [e3, e4] at h1
  exact ⟨rfl, h1, h2⟩

/-- Rows that a call owns, from block base on; what they hold lies below bound. -/
def RowsB (base bound : Nat) (w : World) (v : Value) (l : List BRow) : Prop := ∃ cs, w.ownsRow base 74 33 v l.length cs.flatten ∧ (∀ q, v.ownBlock = some q → q < bound) ∧ RowsIs (fun b => base ≤ b ∧ b < bound ∧ v.ownBlock ≠ some b) w cs l
theorem RowsB.kept {base bound : Nat} {w w' : World} {r : Option Nat} {v : Value} {l : List BRow} (h : RowsB base bound w v l) (hg : w.grownBy w' r) (hr : ∀ q, r = some q → q < base ∨ bound ≤ q) : RowsB base bound w' v l := by
  obtain ⟨cs, h1, h2, h3⟩ := h
  refine ⟨cs, World.ownsRow.kept h1 hg ?_, h2, h3.kept hg (fun b hb e => ?_)⟩
  · cases hv : v.ownBlock with
    | none => left; rfl
    | some q =>
      right
      intro e
      have := h2 q hv
      have := (h1.lt q hv).1
      rcases hr q e.symm with h | h <;> omega
  · rcases hr b e with h | h
    · omega
    · omega
theorem RowsB.below {base bound : Nat} {w w' : World} {v : Value} {l : List BRow} (h : RowsB base bound w v l) (hb : Below w.heap.size w w') : RowsB base bound w' v l := h.kept (grownBy_below (r := none) hb) (by simp)
theorem RowsB.own {base bound : Nat} {w : World} {v : Value} {l : List BRow} (h : RowsB base bound w v l) (hb : bound ≤ w.heap.size) : RowsOwn base w v l := by
  obtain ⟨cs, h1, _, h3⟩ := h
  exact ⟨cs, h1, h3.mono fun b hb' => ⟨hb'.1, Nat.lt_of_lt_of_le hb'.2.1 hb, hb'.2.2⟩⟩
theorem RowsB.of {base : Nat} {w : World} {v : Value} {l : List BRow} (h : RowsOwn base w v l) : RowsB base w.heap.size w v l := by
  obtain ⟨cs, h1, h3⟩ := h
  exact ⟨cs, h1, fun q hq => (h1.lt q hq).2, h3⟩
theorem RowsOwn.mono {base : Nat} {w : World} {v : Value} {l : List BRow} (h : RowsOwn (base + 1) w v l) : RowsOwn base w v l := by
  obtain ⟨cs, h1, h2⟩ := h
  exact ⟨cs, ownsRow_mono h1 (Nat.le_succ _), h2.mono fun b hb => ⟨Nat.le_of_succ_le hb.1, hb.2⟩⟩
theorem eInt : Elem Try.prog 72 3 (.int .i64 0) 1 8 := ⟨by kernel_rfl, by kernel_rfl, rfl, by decide⟩
/-- What holds between two numbers of a row. -/
def NumRel (B N gx g : Nat) (w0 : World) (kc : List Value) (v : Value) (l0 : List BRow) (key : List UInt8) (ns : List Int) (q : Nat) (rest : List UInt8) (wq : World) : Prop :=
  ∃ a m c, Blk wq gx 74 (key.map b8 ++ [.slice a m c]) ∧ wq.ownsRow (gx + 1) 3 1 (.slice a m c) q ((ns.take q).map (Value.int .i64)) ∧ RdAt B wq g rest 0 ∧ RowsB (N + 1) gx wq v l0 ∧ Blk wq N 61 kc ∧ Kp N (some g) w0 wq
theorem num_step {N gx g : Nat} {w0 w1 : World} {kc : List Value} {v : Value} {l0 : List BRow} {key : List UInt8} {ns : List Int} {q : Nat} {rest' : List UInt8} {wq : World} {a : Option Addr} {m c : Nat}
    (hgN : g < N) (hN : N < gx) (hB : B ≤ N) (hk : key.length = 32) (hq : q < ns.length) (hq3 : q < 3)
    (b1 : Blk wq gx 74 (key.map b8 ++ [.slice a m c])) (b2 : wq.ownsRow (gx + 1) 3 1 (.slice a m c) q ((ns.take q).map (Value.int .i64))) (b4 : RowsB (N + 1) gx wq v l0) (b5 : Blk wq N 61 kc) (b6 : Kp N (some g) w0 wq)
    (h1 : RdAt B w1 g rest' 0) (h2 : wq.grownBy w1 (some g)) (n : Int) (hn : n = ns[q]) :
    ∃ a' m' c' w2, (Builtin.append_ #[72, 72] 72 #[.slice a m c, .slice (some ⟨w1.heap.size, 0, none⟩) 1 1]).run Try.prog (w1.alloc (.cells #[.int .i64 n] 3)) = .ok (.slice a' m' c') w2 ∧ w2.cell? ⟨gx, 32, none⟩ = some (.slice a m c) ∧ w2.frozen? ⟨gx, 32, none⟩ = false ∧
      NumRel B N gx g w0 kc v l0 key ns (q + 1) rest' (w2.setCell ⟨gx, 32, none⟩ (.slice a' m' c')) := by
  subst hn
  have hgx : gx < wq.heap.size := b1.lt
  have o1 : w1.ownsRow (gx + 1) 3 1 (.slice a m c) q ((ns.take q).map (Value.int .i64)) := World.ownsRow.kept b2 h2 (by
    cases hv : (Value.slice a m c).ownBlock with
    | none => left; rfl
    | some r => right; intro e; have := (b2.lt r hv).1; cases e; omega)
  have hs := h2.size
  obtain ⟨v', w2, hrun, ho, hg⟩ := append_one (ty := 72) eInt o1 (.int .i64 ns[q]) rfl (by unfold maxLen; omega) (by omega) (by omega)
  obtain ⟨a', c', rfl, _⟩ := owns_at ho
  have hfar : ∀ r, (Value.slice a m c).ownBlock = some r → gx + 1 ≤ r := fun r hr => (o1.lt r hr).1
  have B1 : Blk w1 gx 74 (key.map b8 ++ [.slice a m c]) := b1.keptBy h2 (fun e => by cases e; omega)
  have B2 : Blk w2 gx 74 (key.map b8 ++ [.slice a m c]) := B1.keptBy hg (fun e => by have := hfar _ e; omega)
  have hset : w2.grownBy (w2.setCell ⟨gx, 32, none⟩ (.slice a' (q + 1) c')) (some gx) := grown_set (World.grownBy.refl _ _) _ _
  refine ⟨a', q + 1, c', w2, hrun, B2.cell (by rw [List.getElem?_append_right (by simp [hk])]; simp [hk]), B2.free 32, a', q + 1, c', ?_, ?_, ?_, ?_, ?_, ?_⟩
  · have := B2.set 32 (.slice a' (q + 1) c')
    rw [List.set_append_right _ _ (by simp [hk])] at this
    simpa [hk] using this
  · have e : (ns.take (q + 1)).map (Value.int .i64) = (ns.take q).map (Value.int .i64) ++ [.int .i64 ns[q]] := by
      rw [List.take_succ_eq_append_getElem hq]; simp only [List.map_append, List.map_cons, List.map_nil]
    rw [e]
    refine World.ownsRow.kept ho hset ?_
    cases hv : (Value.slice a' (q + 1) c').ownBlock with
    | none => left; rfl
    | some r => right; intro e; have := (ho.lt r hv).1; cases e; omega
  · exact (h1.keptOwn hg (fun r hr => by have := hfar r hr; exact ⟨by omega, by omega⟩)).keptOwn hset (fun r hr => by cases hr; exact ⟨by omega, by omega⟩)
  · exact ((b4.kept h2 (fun r hr => by cases hr; left; omega)).kept hg (fun r hr => by have := hfar r hr; right; omega)).kept hset (fun r hr => by cases hr; right; omega)
  · exact ((b5.keptBy h2 (fun e => by cases e; omega)).keptBy hg (fun e => by have := hfar _ e; omega)).keptBy hset (fun e => by cases e; omega)
  · refine ((b6.trans (Kp.ofGrown h2 (by omega) (fun r hr => .inr hr))).trans (Kp.ofGrown hg (by omega) (fun r hr => .inl (by have := hfar r hr; omega)))).trans (Kp.ofGrown hset (by have := hg.size; omega) (fun r hr => .inl (by cases hr; omega)))

theorem num_cell {N gx g : Nat} {wq w1 : World} {key : List UInt8} {x : Value} (hgN : g < N) (hN : N < gx) (hk : key.length = 32) (b1 : Blk wq gx 74 (key.map b8 ++ [x])) (h2 : wq.grownBy w1 (some g)) :
    w1.cell? ⟨gx, 32, none⟩ = some x ∧ ∀ o, (w1.alloc o).cell? ⟨gx, 32, none⟩ = some x := by
  have B1 : Blk w1 gx 74 (key.map b8 ++ [x]) := b1.keptBy h2 (fun e => by cases e; omega)
  have hx : (key.map b8 ++ [x])[32]? = some x := by rw [List.getElem?_append_right (by simp [hk])]; simp [hk]
  exact ⟨B1.cell hx, fun o => (B1.alloc o).cell hx⟩
theorem rows_step {N gx g : Nat} {w0 wr : World} {kc : List Value} {v : Value} {l0 : List BRow} {key0 : List UInt8} {ns : List Int} {rest : List UInt8} {a : Option Addr} {m c : Nat}
    (hgN : g < N) (hN : N < gx) (hB : B ≤ N) (hk : key0.length ≤ 32) (hl0 : l0.length ≤ 65536)
    (b1 : Blk wr gx 74 ((pad key0).map b8 ++ [.slice a m c])) (b2 : wr.ownsRow (gx + 1) 3 1 (.slice a m c) ns.length (ns.map (Value.int .i64))) (h1 : RdAt B wr g rest 0) (b4 : RowsB (N + 1) gx wr v l0) (b5 : Blk wr N 61 kc) (b6 : Kp N (some g) w0 wr) :
    ∃ v' w2, (Builtin.append_ #[64, 64] 64 #[v, .slice (some ⟨wr.heap.size, 0, none⟩) 1 1]).run Try.prog (wr.alloc (.cells (rowA (pad key0) a m c) 74)) = .ok v' w2 ∧ RowsOwn (N + 1) w2 v' (l0 ++ [(key0, ns)]) ∧ RdAt B w2 g rest 0 ∧ Blk w2 N 61 kc ∧ Kp N (some g) w0 w2 := by
  obtain ⟨cs, ho, hbd, hcs⟩ := b4
  have hgl := b1.lt
  have hsrc : Src Try.prog 33 64 (.slice (some ⟨wr.heap.size, 0, none⟩) 1 1) 1 (rowL (pad key0) a m c) (wr.alloc (.cells (rowA (pad key0) a m c) 74)) :=
    Src.ofRow eROW.ht _ 1 1 _ (by decide) (by have := rowA_size (pad_length hk) a m c; simpa [rowA] using this) (row_alloc _ _ _ _) (rowL_one _ _ _ _)
  have hbA : Below wr.heap.size wr (wr.alloc (.cells (rowA (pad key0) a m c) 74)) := (Below.refl _ _).alloc (Nat.le_refl _) _
  obtain ⟨v', w2, hrun, hown2, hg2, hk2⟩ := append_srcK (ty := 64) eROW (ho.alloc (.cells (rowA (pad key0) a m c) 74)) hsrc (by unfold maxLen; omega) (by omega) (by simp; omega)
  have hlow : ∀ q, v.ownBlock = some q → N + 1 ≤ q := fun q hq => (ho.lt q hq).1
  obtain ⟨a1, c1, e1, hc1, hm1, hr1, hin1⟩ := owns_at b2
  cases e1
  refine ⟨v', w2, hrun, ?_, ?_, ?_, ?_⟩
  · have h2 : RowsIs (fun b => N + 1 ≤ b ∧ b < wr.heap.size ∧ v.ownBlock ≠ some b) wr (cs ++ [rowL (pad key0) a ns.length c]) (l0 ++ [(key0, ns)]) := by
      refine RowsIs.snoc (hcs.mono fun b hb => ⟨hb.1, by omega, hb.2.2⟩) ⟨_, rfl, hk, a, ns.length, c, rfl, rfl, hc1, hm1, hr1, fun h0 => ?_⟩
      have := hin1 (by simpa using h0)
      exact ⟨by omega, this.2, fun e => by have := hbd _ e; omega⟩
    have h3 := (h2.below hbA).kept hg2 (fun b hb => hb.2.2)
    refine ⟨_, ?_, h3.mono fun b hb => ⟨hb.1, by have := hg2.size; simp at this; omega, fun e => ?_⟩⟩
    · rw [List.flatten_append, List.length_append, List.flatten_cons, List.flatten_nil, List.append_nil]
      exact hown2
    · rcases hk2 _ e with h | h
      · exact hb.2.2 h
      · simp at h; omega
  · exact (h1.keep hbA).keptOwn hg2 (fun r hr => by have := hlow r hr; exact ⟨by omega, by omega⟩)
  · exact (b5.below hbA).keptBy hg2 (fun e => by have := hlow _ e; omega)
  · exact (b6.trans (Kp.ofBelow hbA (by omega))).trans (Kp.ofGrown hg2 (by simp; omega) (fun r hr => .inl (by have := hlow r hr; omega)))
/-- The numbers of row i. -/
def rowNs (k : BKind) (l : List UInt8) : List Int := (List.range k.nums).map fun i => (getL ((l.drop (k.key + 4 * i)).take 4) : Int)
theorem rowNs_at (k : BKind) (l : List UInt8) (q : Nat) (h : q < k.nums) : ∃ h2 : q < (rowNs k l).length, (rowNs k l)[q] = (getL ((l.drop (k.key + 4 * q)).take 4) : Int) := ⟨by simp [rowNs, h], by simp [rowNs]⟩
/-- What holds at the head of a row. -/
def RowsRel (B g : Nat) (w : World) (k : BKind) (m : ByteArray) (l : List UInt8) (n : Nat) (v i : Value) (wr : World) : Prop :=
  ∃ j : Nat, j ≤ n ∧ i = .int .i64 j ∧ RowsOwn (w.heap.size + 1) wr v (rowsF k l j) ∧ RdAt B wr g (l.drop (j * k.size)) 0 ∧ Blk wr w.heap.size 61 [.string m, .bool (keyed k), .int .i64 (k.nums : Int)] ∧ Kp w.heap.size (some g) w wr
set_option maxHeartbeats 4000000 in
theorem rows_any (k : BKind) {w : World} {g n : Nat} {l : List UInt8} (hk : k.good) (m : ByteArray) (h : RdAt B w g l 0) (hB : B ≤ w.heap.size) (hl : n * k.size ≤ l.length) (hm : l.length ≤ 140737488355328) (hn : n ≤ 65536) :
    Calls Try.prog 63 #[.agg #[.string m, .bool (keyed k), .int .i64 (k.nums : Int)], .pointer (some ⟨g, 0, none⟩), .int .i64 n] w fun e w' => ∃ v, e = .returned v ∧ RowsOwn w.heap.size w' v (rowsF k l n) ∧ RdAt B w' g (l.drop (n * k.size)) 0 ∧ Kp w.heap.size (some g) w w' := by
  have hg := h.lt
  have hb0 : Below w.heap.size w (w.alloc (.cells #[.string m, .bool (keyed k), .int .i64 (k.nums : Int)] 61)) := (Below.refl _ _).alloc (Nat.le_refl _) _
  have B0 : Blk (w.alloc (.cells #[.string m, .bool (keyed k), .int .i64 (k.nums : Int)] 61)) w.heap.size 61 [.string m, .bool (keyed k), .int .i64 (k.nums : Int)] := Blk.new _ _ _
  have HK := Lib.hid hk
  have HL := Lib.hid hl
  have z1 : (rowA z32 none 0 0).size = 33 := rowA_size (by decide) _ _ _
  have z2 : OneC (rowA z32 none 0 0) := rowA_one _ _ _ _
  have z3 := zROW_size
  have z4 := fun (w : World) => r_bdROW0 (w := w)
  clear hk hl
  go_enter Try.func63, Try.ntmps63
  go_wp2
  go_loopw [7, 10] (fun v i wr => RowsRel B g w k m l n v i wr) (fun _ i _ => n - (intOf i).toNat)
  case atStart => exact ⟨0, Nat.zero_le _, rfl, ⟨[], World.ownsRow_nil _ _ _ _, RowsIs.nil _ _⟩, by rw [Nat.zero_mul, List.drop_zero]; exact h.keep hb0, B0, Kp.ofBelow hb0 (Nat.le_refl _)⟩
  case round =>
    clear h B0 hb0
    obtain ⟨j, hj, rfl, hv, hrd, Bk, hkp⟩ := hrel
    by_cases hlt : j < n
    · have hNr := Bk.lt
      have hfit : (j + 1) * k.size ≤ l.length := Nat.le_trans (Nat.mul_le_mul_right _ hlt) HL.out
      have hr0 : k.size ≤ (l.drop (j * k.size)).length := by rw [List.length_drop]; rw [Nat.add_mul, Nat.one_mul] at hfit; omega
      have hr1 : (l.drop (j * k.size)).length ≤ 140737488355328 := by rw [List.length_drop]; omega
      have HD : Hid (l.drop ((j + 1) * k.size) = (l.drop (j * k.size)).drop k.size) := by show _ = _; rw [List.drop_drop, Nat.add_mul, Nat.one_mul]
      have HR := Lib.hid (rowsF_succ k l j)
      have hlen : (rowsF k l j).length = j := rowsF_length _ _ _
      generalize hl0 : l.drop (j * k.size) = l0 at *
      generalize rowsF k l j = L0 at *
      clear hl0 hfit
      go_upto_region 5 with (fail)
      have hbx : Below wr.heap.size wr (wr.alloc (.cells (rowA z32 none 0 0) 74)) := (Below.refl _ _).alloc (Nat.le_refl _) _
      have Bx : Blk (wr.alloc (.cells (rowA z32 none 0 0) 74)) wr.heap.size 74 (rowL z32 none 0 0) := Blk.new _ _ _
      have hv1 := RowsB.of hv
      have hv2 := hv1.below hbx
      have hrd1 := hrd.keep hbx
      have Bk1 := Bk.below hbx
      have hkp1 : Kp w.heap.size (some g) w (wr.alloc (.cells (rowA z32 none 0 0) 74)) := hkp.trans (Kp.ofBelow hbx hkp.size)
      generalize wr.alloc (.cells (rowA z32 none 0 0) 74) = W1 at *
      obtain ⟨gx, hgx⟩ : ∃ gx, gx = wr.heap.size := ⟨_, rfl⟩
      rw [← hgx] at Bx hv2 hNr ⊢
      clear hbx hv hv1 hrd Bk hkp hgx
      have c1 : W1.cell? ⟨w.heap.size, 1, none⟩ = _ := Bk1.cell rfl
      go_upto_if 14 with (fail)
      go_cut [0] (fun s0 wx => s0 = .agg #[.string m, .bool (keyed k), .int .i64 (k.nums : Int)] ∧ Blk wx gx 74 ((pad (l0.take k.key)).map b8 ++ [.slice none 0 0]) ∧ RdAt B wx g (l0.drop k.key) 0 ∧ RowsB (w.heap.size + 1) gx wx u7 L0 ∧ Blk wx w.heap.size 61 [.string m, .bool (keyed k), .int .i64 (k.nums : Int)] ∧ Kp w.heap.size (some g) w wx)
      case first =>
        rcases HK.out.2.1 with hk32 | hk0
        · have e1 : keyed k = true := keyed_yes hk32
          rw [e1] at c1
          have h32 : 32 ≤ l0.length := by have : k.size = k.key + 4 * k.nums := rfl; omega
          have hl32 : (l0.take 32).length = 32 := by simp; omega
          have HKk := Lib.hid hk32
          clear hk32
          rw [e1]
          go_wp2_with fail
          refine (bytes_n (n := 32) hrd1 h32 hr1).mono ?_
          rintro e w2 ⟨v2, rfl, ho, hrd2, hg2⟩
          obtain ⟨a2, c2, rfl, hc2, _, hrow2, hin⟩ := ho.at
          obtain ⟨a2, rfl⟩ := Option.isSome_iff_exists.1 (hrow2.byteSome (i := 0) (by omega))
          rw [hl32] at hc2 ⊢
          have q1 : (ldOp 67 (.pointer (some a2))).run Try.prog w2 = .ok (.agg (kcs (l0.take 32))) w2 := ldOp_at (P := Try.prog) (ty := 67) (p := a2) (cs := (l0.take 32).map b8) (fun j v hv => hrow2.2 j v hv) Try.underlying67 rfl (by rw [List.length_map, hl32]; exact sizeID)
          have Bx2 := Bx.keptBy hg2 (fun e => by cases e; omega)
          obtain ⟨w3, hst, B3, hg3⟩ := stOp_blk (P := Try.prog) (ty := 67) (o := 0) (cs := (l0.take 32).map b8) Bx2 (by simp [rowL, z32]; omega) (by rw [List.length_map, hl32]; exact sizeID) (bytes_one _)
          have hB3 : Blk w3 gx 74 ((pad (l0.take k.key)).map b8 ++ [.slice none 0 0]) := by
            have e : ((rowL z32 none 0 0).take 0 ++ (l0.take 32).map b8 ++ (rowL z32 none 0 0).drop (0 + ((l0.take 32).map b8).length)) = (pad (l0.take k.key)).map b8 ++ [.slice none 0 0] := by
              rw [HKk.out, pad_full hl32, List.take_zero, List.nil_append, Nat.zero_add, List.length_map, hl32]
              congr 1
            rw [e] at B3; exact B3
          have D1 : RdAt B w3 g (l0.drop k.key) 0 := by rw [HKk.out]; exact hrd2.keptOwn hg3 (fun r hr => by cases hr; exact ⟨by omega, by omega⟩)
          have D2 := (hv2.kept hg2 (fun r hr => by cases hr; left; omega)).kept hg3 (fun r hr => by cases hr; right; omega)
          have D3 := (Bk1.keptBy hg2 (fun e => by cases e; omega)).keptBy hg3 (fun e => by cases e; omega)
          have D4 := (hkp1.trans (Kp.ofGrown hg2 hkp1.size (fun r hr => .inr hr))).trans (Kp.ofGrown hg3 (by have := hg2.size; have := hkp1.size; omega) (fun r hr => .inl (by cases hr; omega)))
          have hst' : (stoOp 67 (.pointer (some ⟨gx, 0, none⟩)) (.agg (kcs (l0.take 32)))).run Try.prog w2 = .ok () w3 := hst
          clear hst hg2 hg3 B3 Bx2 ho hin hrow2 hrd2 hrd1 hv2 Bk1 hkp1 Bx hr0 hr1 h32 hl32 HD
          generalize kcs (l0.take 32) = KC at *
          go_wp2
          go_meet
          exact ⟨by rw [e1], hB3, D1, D2, D3, D4⟩
        · have e1 : keyed k = false := keyed_no hk0
          rw [e1] at c1
          have hB3 : Blk W1 gx 74 ((pad (l0.take k.key)).map b8 ++ [.slice none 0 0]) := by rw [hk0]; exact Bx
          have D1 : RdAt B W1 g (l0.drop k.key) 0 := by rw [hk0]; exact hrd1
          clear hk0
          rw [e1]
          go_wp2
          go_meet
          exact ⟨by rw [e1], hB3, D1, hv2, Bk1, hkp1⟩
      case rest =>
        clear c1 hv2 hrd1 Bk1 hkp1 Bx
        obtain ⟨rfl, Bx, hrd, hv, Bk, hkp⟩ := hcut
        have hp : (pad (l0.take k.key)).length = 32 := pad_length (by rcases HK.out.2.1 with h | h <;> (rw [List.length_take]; omega))
        have hn3 : k.nums ≤ 3 := HK.out.2.2.2
        have c2 : wc.cell? ⟨w.heap.size, 2, none⟩ = _ := Bk.cell rfl
        have hns : (rowNs k l0).length = k.nums := by simp [rowNs]
        have HNS := Lib.hid hns
        have HP := Lib.hid hp
        clear hns hp
        go_wp2
        go_loopw [22] (fun i wq => ∃ q : Nat, q ≤ k.nums ∧ i = .int .i64 q ∧ NumRel B w.heap.size gx g w [.string m, .bool (keyed k), .int .i64 (k.nums : Int)] u7 L0 (pad (l0.take k.key)) (rowNs k l0) q (l0.drop (k.key + 4 * q)) wq) (fun i _ => k.nums - (intOf i).toNat)
        case atStart => exact ⟨0, Nat.zero_le _, rfl, none, 0, 0, Bx, World.ownsRow_nil _ _ _ _, hrd, hv, Bk, hkp⟩
        case round =>
          clear Bx hrd hv Bk hkp c2
          obtain ⟨q, hq, rfl, a', m', c', Bx, ho, hrd, hv, Bk, hkp⟩ := hrel
          by_cases hlq : q < k.nums
          · have h4 : 4 ≤ (l0.drop (k.key + 4 * q)).length := by have : k.size = k.key + 4 * k.nums := rfl; rw [List.length_drop]; omega
            obtain ⟨hq1, hq2⟩ := rowNs_at k l0 q hlq
            have hX : getL ((l0.drop (k.key + 4 * q)).take 4) < 4294967296 := by
              have h1 := getL_lt ((l0.drop (k.key + 4 * q)).take 4)
              have h2 : ((l0.drop (k.key + 4 * q)).take 4).length = 4 := by rw [List.length_take]; omega
              rw [h2] at h1
              exact h1
            have HQ := Lib.hid hq2.symm
            have hdr : (l0.drop (k.key + 4 * q)).drop 4 = l0.drop (k.key + 4 * (q + 1)) := by rw [List.drop_drop]; congr 1
            have HDR := Lib.hid hdr
            clear hq2 hdr
            have HX : Hid (getL ((l0.drop (k.key + 4 * q)).take 4) < 4294967296) := hX
            have d32 : wr.cell? ⟨gx, 32, none⟩ = some (.slice a' m' c') := Bx.cell (by rw [List.getElem?_append_right (by simp [HP.out])]; simp [HP.out])
            have eX : IntKind.i64.wrap (getL ((l0.drop (k.key + 4 * q)).take 4) : Int) = (getL ((l0.drop (k.key + 4 * q)).take 4) : Int) := IntWalk.i64_in _ (by omega)
            have hq3 : q < 3 := by omega
            have hr4 := hrd.drewN 1
            go_wp2
            go_region_law ((first
              | (go_simp; go_at_call 61; refine (num_n (n := 4) hr4 (by decide) (by decide) h4).mono ?_; rintro e w1 ⟨rfl, hrd1, hg1⟩; obtain ⟨y32, y33⟩ := num_cell hg hNr HP.out Bx (grownBy_undrew (n := 1) hg1))
              | (obtain ⟨a2, m2, c2, w2, hrun, e32, f32, hrel2⟩ := num_step (kc := [.string m, .bool (keyed k), .int .i64 (k.nums : Int)]) hg hNr hB HP.out hq1 hq3 Bx ho hv Bk hkp hrd1 (grownBy_undrew (n := 1) hg1) _ HQ.out; refine step_append_run hrun rfl rfl rfl rfl ?_)))
            all_goals
              rw [HDR.out] at hrel2
              clear hrun e32 f32 hg1 hrd1 y32 y33 Bx ho hrd hv Bk hkp d32 hr4 eX
              go_wp2
              first
                | exact ⟨⟨q + 1, by omega, (by first | rfl | go_num | (congr 1; omega)), hrel2⟩, by simp [intOf] <;> omega⟩
                | (refine ⟨?_, by simp [intOf] <;> omega⟩; (repeat apply Exists.intro); exact ⟨⟨q + 1, by omega, (by first | rfl | go_num | (congr 1; omega)), hrel2⟩, rfl⟩)
          · obtain rfl : q = k.nums := by omega
            have hkey : (l0.take k.key).length ≤ 32 := by rcases HK.out.2.1 with h | h <;> (rw [List.length_take]; omega)
            have q1 : (ldOp 74 (.pointer (some ⟨gx, 0, none⟩))).run Try.prog wr = .ok (.agg (rowA (pad (l0.take k.key)) a' m' c')) wr := ldOp_all Bx Try.underlying74 rfl (by have h := rowA_size HP.out a' m' c'; simp only [rowA, List.size_toArray] at h; rw [h]; exact sizeROW)
            have r33 := rowA_size HP.out a' m' c'
            have ho' : wr.ownsRow (gx + 1) 3 1 (.slice a' m' c') (rowNs k l0).length ((rowNs k l0).map (Value.int .i64)) := by
              rw [List.take_of_length_le (by have := HNS.out; omega)] at ho
              rw [HNS.out]; exact ho
            obtain ⟨v', w2, hrun, D1, D2, D3, D4⟩ := rows_step (kc := [.string m, .bool (keyed k), .int .i64 (k.nums : Int)]) hg hNr hB hkey (by rw [hlen]; omega) Bx ho' hrd hv Bk hkp
            have D1' : Hid (RowsOwn (w.heap.size + 1) w2 v' (rowsF k l (j + 1))) := by
              show RowsOwn _ _ _ _
              rw [HR.out]; exact D1
            have D2' : Hid (RdAt B w2 g (l.drop ((j + 1) * k.size)) 0) := by
              show RdAt _ _ _ _ _
              rw [HD.out]; exact D2
            clear D1 D2 ho ho' Bx hrd hv Bk hkp
            generalize rowA (pad (l0.take k.key)) a' m' c' = RA at *
            go_wp2_with (at_builtin; refine wpList_append_run hrun rfl rfl rfl rfl ?_)
            first
              | exact ⟨⟨j + 1, by omega, (by first | rfl | go_num | (congr 1; omega)), D1'.out, D2'.out, D3, D4⟩, by simp [intOf] <;> omega⟩
              | (refine ⟨?_, by simp [intOf] <;> omega⟩; (repeat apply Exists.intro); exact ⟨⟨j + 1, by omega, (by first | rfl | go_num | (congr 1; omega)), D1'.out, D2'.out, D3, D4⟩, rfl⟩)
    · obtain rfl : j = n := by omega
      go_wp2
      go_ret
      exact ⟨_, rfl, RowsOwn.mono hv, hrd, hkp⟩
end Go.Proofs.Ytcomcljpnjeogaa
