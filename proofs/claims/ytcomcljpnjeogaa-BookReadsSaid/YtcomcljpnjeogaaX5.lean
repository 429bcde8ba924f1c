/- The walk of (*xxh.Hasher).Write. -/
import Derived.Test.YtcomcljpnjeogaaX4
import Derived.Deep.Cut
import Derived.Deep.RegionWith
set_option maxRecDepth 20000
namespace Go.Proofs.Ytcomcljpnjeogaa
open Go.RowKit Go.Hd
variable {S : Nat → Prop}

/-- A hasher's cells. -/
def hasCells (seed : BitVec 64) (f : Nat → BitVec 64) (v6 v7 : Value) : List Value :=
  [.bool true, .int .u64 (seed.toNat : Int), .int .u64 ((f 0).toNat : Int), .int .u64 ((f 1).toNat : Int), .int .u64 ((f 2).toNat : Int), .int .u64 ((f 3).toNat : Int), v6, v7]

theorem hasCells_free (seed : BitVec 64) (f : Nat → BitVec 64) {v6 v7 : Value} (h6 : ∀ n, v6 ≠ .int .u8 n) (h7 : ∀ n, v7 ≠ .int .u8 n) : ∀ (i : Nat) (n : Int), (hasCells seed f v6 v7)[i]? ≠ some (Value.int .u8 n) := by
  intro i n h
  have h1 : i < 8 := by
    rcases Nat.lt_or_ge i 8 with h1 | h1
    · exact h1
    · rw [List.getElem?_eq_none (by simpa [hasCells] using h1)] at h; cases h
  obtain h | h | h | h | h | h | h | h : i = 0 ∨ i = 1 ∨ i = 2 ∨ i = 3 ∨ i = 4 ∨ i = 5 ∨ i = 6 ∨ i = 7 := by omega
  all_goals
    subst h
    simp [hasCells] at h
    try exact h6 _ h
    try exact h7 _ h
def midL (f f' : Nat → BitVec 64) (k p : Nat) : BitVec 64 := if p < k then f' p else f p
theorem mid_set (seed : BitVec 64) (f f' : Nat → BitVec 64) (v6 v7 : Value) (k : Nat) (hk : k < 4) : (hasCells seed (midL f f' k) v6 v7).set (2 + k) (.int .u64 ((f' k).toNat : Int)) = hasCells seed (midL f f' (k + 1)) v6 v7 := by
  obtain h | h | h | h : k = 0 ∨ k = 1 ∨ k = 2 ∨ k = 3 := by omega
  all_goals
    subst h
    simp [hasCells, midL]
theorem mid_start (seed : BitVec 64) (f f' : Nat → BitVec 64) (v6 v7 : Value) : hasCells seed (midL f f' 0) v6 v7 = hasCells seed f v6 v7 := by simp [hasCells, midL]
theorem mid_end (seed : BitVec 64) (f f' : Nat → BitVec 64) (v6 v7 : Value) : hasCells seed (midL f f' 4) v6 v7 = hasCells seed f' v6 v7 := by simp [hasCells, midL]
theorem mid_get (seed : BitVec 64) (f f' : Nat → BitVec 64) (v6 v7 : Value) (k : Nat) (hk : k < 4) : (hasCells seed (midL f f' k) v6 v7)[2 + k]? = some (.int .u64 ((f k).toNat : Int)) := by
  obtain h | h | h | h : k = 0 ∨ k = 1 ∨ k = 2 ∨ k = 3 := by omega
  all_goals
    subst h
    simp [hasCells, midL]

/-- At the head of a round of thirty-twos. -/
def WRel (w : World) (g : Nat) (seed : BitVec 64) (t : List UInt8) (q : Nat) (L : List UInt8) (v6 v7 all : Value) (wr : World) : Prop :=
  ∃ (j : Nat) (a : Option Addr) (c : Nat) (R : List UInt8), 32 * j ≤ L.length ∧ R = L.drop (32 * j) ∧ all = .slice a R.length c ∧ Row wr a (R.map b8) ∧ R.length ≤ c ∧ c ≤ maxLen ∧ (0 < R.length → w.heap.size ≤ (hd a).block ∧ (hd a).block < wr.heap.size) ∧
    Blk wr g 131 (hasCells seed (fun k => lanes t seed k (q + j)) v6 v7) ∧ w.grownBy wr (some g)
/-- At the head of a round of lanes. -/
def LRel (w : World) (g : Nat) (seed : BitVec 64) (f f' : Nat → BitVec 64) (v6 v7 : Value) (a : Option Addr) (R : List UInt8) (n : Nat) (i : Value) (wr : World) : Prop :=
  ∃ k : Nat, k ≤ 4 ∧ i = .int .i64 k ∧ Row wr a (R.map b8) ∧ Blk wr g 131 (hasCells seed (midL f f' k) v6 v7) ∧ w.grownBy wr (some g) ∧ n ≤ wr.heap.size
set_option maxHeartbeats 1000000 in
theorem write_any {w : World} {g : Nat} {seed : BitVec 64} {l m : List UInt8} {ab : Option Addr} {nb cb : Nat} (h : HAt S w g seed l) (hn : nb = m.length) (hm : Row w ab (m.map b8)) (hcb : nb ≤ cb) (hlm : l.length + m.length ≤ 140737488355328) :
    Calls Try.prog 67 #[.pointer (some ⟨g, 0, none⟩), .slice ab nb cb] w fun e w' => e = .returned (.tuple #[]) ∧ HAt (fun k => w.heap.size ≤ k ∧ k < w'.heap.size) w' g seed (l ++ m) ∧ w.grownBy w' (some g) := by
  subst hn
  obtain ⟨a, c, hB, hr, hc, hcm, _⟩ := h
  obtain ⟨r, hre⟩ : ∃ r, r = l.drop (32 * (l.length / 32)) := ⟨_, rfl⟩
  rw [← hre] at hB hr hc
  have hrl : r.length = l.length - 32 * (l.length / 32) := by rw [hre, List.length_drop]
  have HRE := Lib.hid hre
  have hrm : r.length + m.length ≤ 140737488355328 := by omega
  have HRL := Lib.hid hrl
  clear hre hrl
  have hgl := hB.lt
  have apart := fun {a : Option Addr} {m : List UInt8} (hr : Row w a (m.map b8)) (h0 : 0 < m.length) => Blk.apart hB (hasCells_free seed (fun k => lanes l seed k (l.length / 32)) (by simp) (by simp)) hr h0
  have hra := fun h0 : 0 < r.length => apart hr h0
  have hma := fun h0 : 0 < m.length => apart hm h0
  clear apart
  have c0 : w.cell? ⟨g, 0, none⟩ = _ := hB.cell rfl
  have c6 : w.cell? ⟨g, 6, none⟩ = _ := hB.cell rfl
  have c7 : w.cell? ⟨g, 7, none⟩ = _ := hB.cell rfl
  have f7 := hB.free 7
  obtain ⟨i0, hi, hz0, hz1, hz2⟩ := info_parts eB.hi
  have hmk := run_make (P := Try.prog) (w.setCell ⟨g, 7, none⟩ (.int .u64 ((l.length : Int) + m.length))) 27 5 i0 (.int .u8 0) eB.ht hi hz0 .i64 .i64 0 ((r.length : Int) + m.length) (by omega) (by omega) (by rw [hz2]; omega) (by omega)
  rw [hz1] at hmk
  simp only [Nat.mul_one] at hmk
  have htc : ((r.length : Int) + m.length).toNat = r.length + m.length := by omega
  rw [htc] at hmk
  have hB1 := hB.set 7 (.int .u64 ((l.length : Int) + m.length))
  have hg1 : w.grownBy (w.setCell ⟨g, 7, none⟩ (.int .u64 ((l.length : Int) + m.length))) (some g) := grown_set (World.grownBy.refl _ _) _ _
  obtain ⟨w2, hw2⟩ : ∃ w2, w2 = (w.setCell ⟨g, 7, none⟩ (.int .u64 ((l.length : Int) + m.length))).alloc (.cells (madeCells #[.int .u8 0] (r.length + m.length)) 5) := ⟨_, rfl⟩
  have hB2 : Blk w2 g 131 (hasCells seed (fun k => lanes l seed k (l.length / 32)) (.slice a r.length c) (.int .u64 ((l.length : Int) + m.length))) := by rw [hw2]; exact hB1.alloc _
  have hg2 : w.grownBy w2 (some g) := by rw [hw2]; exact grownBy_trans hg1 (grownBy_below ((Below.refl _ _).alloc (Nat.le_refl _) _))
  have hs2 : w.heap.size < w2.heap.size := by rw [hw2]; simp
  have own0 : w2.ownsRow w.heap.size 5 1 (.slice (some ⟨w.heap.size, 0, none⟩) 0 (r.length + m.length)) 0 [] := by
    rw [hw2]
    have h := Blk.new (w.setCell ⟨g, 7, none⟩ (.int .u64 ((l.length : Int) + m.length))) 5 (madeCells #[.int .u8 0] (r.length + m.length))
    rw [show (w.setCell ⟨g, 7, none⟩ (.int .u64 ((l.length : Int) + m.length))).heap.size = w.heap.size by simp] at h
    exact h.owns (Nat.le_refl _) (Nat.zero_le _) (by simp [madeCells]) (by unfold maxLen; omega)
  have hr2 : Row w2 a (r.map b8) := hr.keptFar hg2 (fun h0 e => hra (by simpa using h0) (by simpa using e.symm))
  have hm2 : Row w2 ab (m.map b8) := hm.keptFar hg2 (fun h0 e => hma (by simpa using h0) (by simpa using e.symm))
  obtain ⟨v1, w3, hrun1, own1, gr1⟩ := append_src (ty := 27) eB own0 (Src.ofRow eB.ht a r.length c (r.map b8) (by decide) (by simp) hr2 (bytes_one r)) (by unfold maxLen; omega) (by omega) (by omega)
  have gr1' : w2.grownBy w3 (some w.heap.size) := gr1
  have hm3 : Row w3 ab (m.map b8) := hm2.keptFar gr1' (fun h0 e => by have := hm.block_lt h0; simp at e; omega)
  have hB3 := hB2.keptBy gr1' (by simp; omega)
  obtain ⟨v2, w4, hrun2, own2, gr2⟩ := append_src (ty := 27) eB own1 (Src.ofRow eB.ht ab m.length cb (m.map b8) (by decide) (by simp) hm3 (bytes_one m)) (by unfold maxLen; omega) (by omega) (by have := gr1'.size; omega)
  have hB4 := hB3.keptBy gr2 (fun e => by have := own1.lt g e; omega)
  have gr4 : w.grownBy w4 (some g) := by
    refine ⟨gr2.os.trans (gr1'.os.trans hg2.os), gr2.tape.trans (gr1'.tape.trans hg2.tape), gr2.output.trans (gr1'.output.trans hg2.output), Nat.le_trans hg2.size (Nat.le_trans gr1'.size gr2.size), fun i hi hne => ?_⟩
    have s2 := hg2.size
    have s3 := gr1'.size
    rw [gr2.block i (by omega) (fun e => by have := own1.lt i e.symm; omega), gr1'.block i (by omega) (by simp; omega), hg2.block i hi hne]
  have d6 : w2.cell? ⟨g, 6, none⟩ = _ := hB2.cell rfl
  have HW2 := Lib.hid hw2
  obtain ⟨L, hL⟩ : ∃ L, L = r ++ m := ⟨_, rfl⟩
  have own2' : w4.ownsRow w.heap.size 5 1 v2 L.length (L.map b8) := by rw [hL]; simpa using own2
  have HL : Hid (L = (l ++ m).drop (32 * (l.length / 32))) := by
    show _ = _
    rw [hL, HRE.out, List.drop_append_of_le_length (by omega)]
  have HLN : Hid (L.length = r.length + m.length) := by
    show _ = _
    rw [hL, List.length_append]
  have hL47 : L.length ≤ 140737488355328 := by have := HLN.out; omega
  have hB5 : Blk w4 g 131 (hasCells seed (fun k => lanes (l ++ m) seed k (l.length / 32 + 0)) (.slice a r.length c) (.int .u64 ((l.length : Int) + m.length))) := by
    have e : ∀ k, k < 4 → lanes (l ++ m) seed k (l.length / 32) = lanes l seed k (l.length / 32) := fun k hk => lanes_append l m seed k hk _ (by omega)
    have := hB4
    unfold hasCells at this ⊢
    simp only [Nat.add_zero, e 0 (by decide), e 1 (by decide), e 2 (by decide), e 3 (by decide)]
    exact this
  obtain ⟨a4, c4, rfl, k1, k2, k3, k4⟩ := owns_at own2'
  have k4' : 0 < L.length → w.heap.size ≤ (hd a4).block ∧ (hd a4).block < w4.heap.size := fun h => k4 (by simpa using h)
  clear hw2 own2 gr2 own1 gr1 gr1' own0 hm3 hB3 hr2 hm2 hg2 hB2 hB1 hg1 hi hz0 hz1 hz2 htc hra hma hr hm hL own2' hB4 k4
  go_enter Try.func67, Try.ntmps67
  go_upto_region 3 with (fail)
  rw [← HW2.out]
  clear c0 c6 c7 f7 hmk
  go_wp2_with (first | (at_builtin; refine wpList_append_run hrun1 rfl rfl rfl rfl ?_) | (at_builtin; refine wpList_append_run hrun2 rfl rfl rfl rfl ?_))
  clear hrun1 hrun2 d6
  generalize Value.slice a r.length c = v6 at *
  generalize hv7 : Value.int .u64 ((l.length : Int) + m.length) = v7 at *
  have HV := Lib.hid hv7
  clear hv7
  go_loopw [4, 5, 45] (fun all _ _ wr => WRel w g seed (l ++ m) (l.length / 32) L v6 v7 all wr) (fun all _ _ _ => slLen all)
  case atStart => exact ⟨0, a4, c4, L, Nat.zero_le _, rfl, rfl, k3, k1, k2, k4', hB5, gr4⟩
  case round =>
    obtain ⟨j, a, c, R, hj, hR, rfl, hrow, hRc, hcm, hloc, hB, hgr⟩ := hrel
    have HR := Lib.hid hR
    have HRN : Hid (R.length = L.length - 32 * j) := by show _ = _; rw [hR, List.length_drop]
    have hcM : c ≤ 9223372036854775807 := hcm
    clear hR hB5 gr4 k1 k2 k3 k4'
    by_cases h32 : 32 ≤ R.length
    · have h32I : (32 : Int) ≤ R.length := by omega
      have hlen : ∀ k, (R.drop k).length = R.length - k := fun k => List.length_drop
      obtain ⟨n0, hn0⟩ : ∃ n0, n0 = wr.heap.size := ⟨_, rfl⟩
      have hn0' : n0 ≤ wr.heap.size := by omega
      rw [← hn0] at hloc
      clear hn0 hj
      obtain ⟨f, hf⟩ : ∃ f : Nat → BitVec 64, f = fun k => lanes (l ++ m) seed k (l.length / 32 + j) := ⟨_, rfl⟩
      obtain ⟨f', hf'⟩ : ∃ f' : Nat → BitVec 64, f' = fun k => lanes (l ++ m) seed k (l.length / 32 + j + 1) := ⟨_, rfl⟩
      rw [← hf] at hB
      have HF' := Lib.hid hf'
      have HST : Hid (∀ k, k < 4 → laneF (f k) (numF ((R.drop (8 * k)).take 8)) = f' k) := by
        show ∀ k, _
        intro k _
        rw [hf, hf', HR.out, HL.out, List.drop_drop, List.drop_drop]
        show _ = laneF _ _
        rw [show 32 * (l.length / 32) + (32 * j + 8 * k) = 32 * (l.length / 32 + j) + 8 * k by omega]
      clear hf hf'
      go_wp2
      go_loopw [5, 45] (fun _ i wr => LRel w g seed f f' v6 v7 a R n0 i wr) (fun _ i _ => 4 - (intOf i).toNat)
      case atStart => exact ⟨0, by decide, rfl, hrow, by rw [mid_start]; exact hB, hgr, hn0'⟩
      case round =>
        clear hrow hB hgr hn0'
        rename_i wq _ _ wr _
        obtain ⟨k, hk, rfl, hrow, hB, hgr, hn0'⟩ := hrel
        by_cases hlt : k < 4
        · have hkI : (k : Int) < 4 := by omega
          have hkI0 : (0 : Int) ≤ (k : Int) := by omega
          have ck : wr.cell? ⟨g, 2 + k, none⟩ = _ := hB.cell (mid_get seed f f' v6 v7 k hlt)
          have fk := hB.free (2 + k)
          obtain ⟨a', c', hsl, hk1, hk2, hrow'⟩ := cut_l (P := Try.prog) (t := 27) (e := 5) (s := 1) eB.ht (by kernel_rfl) hrow (by simp) hRc (k1 := .i64) (i := 8 * (k : Int)) (p := 8 * k) (by simp) (by omega)
          rw [Nat.mul_one, ← List.map_drop] at hrow'
          have hS := HST.out k hlt
          have HS := Lib.hid hS
          have hw8 : IntKind.i64.wrap (8 * (k : Int)) = 8 * (k : Int) := IntWalk.i64_in _ (by omega)
          have hl8 := hlen (8 * k)
          obtain ⟨R8, hR8⟩ : ∃ R8, R8 = R.drop (8 * k) := ⟨_, rfl⟩
          rw [← hR8] at hrow' hl8 HS
          clear hS hlen
          have hn8 : R.length - 8 * k = R8.length := hl8.symm
          rw [hn8] at hsl hk1
          have h88 : 8 ≤ R8.length := by omega
          clear hl8 hn8 hR8
          go_wp2
          go_region_with ((first
            | (go_at_call 81; refine (word_any (l := R8) rfl ?_ h88 hk1).mono ?_; (first | exact hrow' | exact hrow'.drewN _); rintro e1 w1 ⟨rfl, rfl⟩)
            | (go_at_call 80; refine (lane_bv (f k) (numF (R8.take 8)) (by rfl) (by rfl)).mono ?_; rintro e1 w1 ⟨rfl, n1, rfl⟩)))
          all_goals
            have hB' : Blk ((wr.drewN (1 + n1)).setCell ⟨g, 2 + k, none⟩ (.int .u64 ((laneF (f k) (numF (R8.take 8))).toNat : Int))) g 131 (hasCells seed (midL f f' (k + 1)) v6 v7) := by
              have := (hB.drewN (1 + n1)).set (2 + k) (.int .u64 ((laneF (f k) (numF (R8.take 8))).toNat : Int))
              rw [HS.out, mid_set seed f f' v6 v7 k hlt] at this
              rw [HS.out]
              exact this
            have gs : (wr.drewN (1 + n1)).grownBy ((wr.drewN (1 + n1)).setCell ⟨g, 2 + k, none⟩ (.int .u64 ((laneF (f k) (numF (R8.take 8))).toNat : Int))) (some g) := grown_set (World.grownBy.refl _ _) _ _
            have hgr' := grownBy_trans (grownBy_drewN hgr (1 + n1)) gs
            have hrow2 := (hrow.drewN (1 + n1)).keptFar gs (fun h0 e => by have := hloc (by simpa using h0); simp at e; omega)
            have hsz := Nat.le_trans hn0' gs.size
            generalize (wr.drewN (1 + n1)).setCell ⟨g, 2 + k, none⟩ (.int .u64 ((laneF (f k) (numF (R8.take 8))).toNat : Int)) = w' at *
            clear ck fk hsl hrow' hrow hB hgr hn0' gs hkI0
            go_wp2
            first
              | exact ⟨⟨k + 1, by omega, (by first | rfl | go_num | (congr 1; omega)), hrow2, hB', hgr', hsz⟩, by simp [intOf] <;> omega⟩
              | (refine ⟨?_, by simp [intOf] <;> omega⟩; (repeat apply Exists.intro); exact ⟨⟨k + 1, by omega, (by first | rfl | go_num | (congr 1; omega)), hrow2, hB', hgr', hsz⟩, rfl⟩)
        · have hk4 : k = 4 := by omega
          subst hk4
          rw [mid_end] at hB
          obtain ⟨a', c', hsl, hk1, hk2, hrow', hbl⟩ := cut_lb (P := Try.prog) (t := 27) (e := 5) (s := 1) eB.ht (by kernel_rfl) hrow (by simp) hRc (k1 := .i64) (i := 32) (p := 32) rfl (by omega)
          rw [Nat.mul_one, ← List.map_drop] at hrow'
          have hR' : R.drop 32 = L.drop (32 * (j + 1)) := by rw [HR.out, List.drop_drop]; congr 1
          have hRl : R.length - 32 = (R.drop 32).length := (hlen 32).symm
          have hLj : 32 * (j + 1) ≤ L.length := by have := HRN.out; omega
          obtain ⟨R', hRe⟩ : ∃ R', R' = R.drop 32 := ⟨_, rfl⟩
          rw [← hRe] at hrow' hR' hRl
          rw [hRl] at hk1 hsl
          have hlt : R'.length < R.length := by omega
          have hloc' : 0 < R'.length → w.heap.size ≤ (hd a').block ∧ (hd a').block < wr.heap.size := fun h => by
            rw [hbl]; have := hloc (by omega); omega
          have HR' := Lib.hid hR'
          rw [HF'.out] at hB
          clear hRe hR' hRl hlen hbl hrow hloc HF' HST hn0'
          go_wp2
          first
            | exact ⟨⟨j + 1, a', c', R', hLj, HR'.out, rfl, hrow', hk1, Nat.le_trans hk2 hcm, hloc', hB, hgr⟩, hlt⟩
            | (refine ⟨?_, hlt⟩; (repeat apply Exists.intro); exact ⟨⟨j + 1, a', c', R', hLj, HR'.out, rfl, hrow', hk1, Nat.le_trans hk2 hcm, hloc', hB, hgr⟩, rfl⟩)
    · have h32I : ¬ (32 : Int) ≤ R.length := by omega
      have f6 := hB.free 6
      have c6 : wr.cell? ⟨g, 6, none⟩ = _ := hB.cell rfl
      have hB' := hB.set 6 (.slice a R.length c)
      have hgr' : w.grownBy (wr.setCell ⟨g, 6, none⟩ (.slice a R.length c)) (some g) := grownBy_trans hgr (grown_set (World.grownBy.refl _ _) _ _)
      have hrow' : Row (wr.setCell ⟨g, 6, none⟩ (.slice a R.length c)) a (R.map b8) := hrow.keptFar (grown_set (World.grownBy.refl _ _) _ _) (fun h0 e => by have := hloc (by simpa using h0); simp at e; omega)
      have hq : (l ++ m).length / 32 = l.length / 32 + j := by
        have h1 := HRN.out; have h2 := HLN.out; have h3 := HRL.out
        rw [List.length_append]; omega
      have hRf : R = (l ++ m).drop (32 * ((l ++ m).length / 32)) := by
        rw [HR.out, HL.out, List.drop_drop, hq]; congr 1; omega
      have hloc' : 0 < R.length → w.heap.size ≤ (hd a).block ∧ (hd a).block < (wr.setCell ⟨g, 6, none⟩ (.slice a R.length c)).heap.size := by simpa using hloc
      have fin : HAt (fun k => w.heap.size ≤ k ∧ k < (wr.setCell ⟨g, 6, none⟩ (.slice a R.length c)).heap.size) (wr.setCell ⟨g, 6, none⟩ (.slice a R.length c)) g seed (l ++ m) := by
        refine ⟨a, c, ?_, by rw [← hRf]; exact hrow', by rw [← hRf]; exact hRc, hcm, by rw [← hRf]; exact hloc'⟩
        rw [← hRf, hq]
        have := hB'
        rw [← HV.out] at this
        simpa [hasCells] using this
      have FIN := Lib.hid (And.intro fin hgr')
      clear fin hgr' hrow' hq hRf hloc' hB'
      go_wp2
      go_end0
      exact ⟨rfl, FIN.out⟩
end Go.Proofs.Ytcomcljpnjeogaa
