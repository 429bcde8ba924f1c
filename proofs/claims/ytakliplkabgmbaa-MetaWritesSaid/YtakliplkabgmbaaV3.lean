/- Layer 05: the writer's put and head. -/
import Derived.Test.YtakliplkabgmbaaV2
import Derived.Test.YtakliplkabgmbaaW3
set_option maxRecDepth 20000
namespace Go.Proofs.Ytakliplkabgmbaa
open Go.RowKit Go.Hd

/-- The writer in block g: what it has laid, and whether it gave up. -/
def WrAt (B : Nat) (w : World) (g : Nat) (s : List UInt8 × Bool) : Prop := ∃ v, Buf B w g 88 5 [v, .bool s.2] v s.1 ∧ s.1.length ≤ 65536
def putF (s : List UInt8 × Bool) (m : List UInt8) : List UInt8 × Bool := if s.2 = true ∨ 65536 - s.1.length < m.length then (s.1, true) else (s.1 ++ m, false)
theorem WrAt.keep {B g : Nat} {w w' : World} {s : List UInt8 × Bool} (h : WrAt B w g s) (hb : Below w.heap.size w w') : WrAt B w' g s := by
  obtain ⟨v, h1, h2⟩ := h
  exact ⟨v, h1.keep hb, h2⟩
theorem WrAt.le {B g : Nat} {w : World} {s : List UInt8 × Bool} (h : WrAt B w g s) : B ≤ w.heap.size := by
  obtain ⟨v, h1, _⟩ := h; exact h1.le
theorem WrAt.lt {B g : Nat} {w : World} {s : List UInt8 × Bool} (h : WrAt B w g s) : g < B := by
  obtain ⟨v, h1, _⟩ := h; exact h1.lt
/-- The block that the slice in a block's first cell owns. -/
def ownOf (w : World) (g : Nat) : Option Nat := (w.cell? ⟨g, 0, none⟩).bind Value.ownBlock
theorem Blk.ownOf {w : World} {g : Nat} {T : TypeId} {v : Value} {xs : List Value} (h : Blk w g T (v :: xs)) : ownOf w g = v.ownBlock := by
  unfold Go.Proofs.Ytakliplkabgmbaa.ownOf; rw [h.cell (i := 0) (u := v) rfl]; rfl
/-- What the writer in block g may change: its block, its bytes' block; below block B nothing but its block. -/
structure Kx (B g : Nat) (w w' : World) : Prop where
  kp : Kp B (some g) w w'
  far : ∀ q, q < w.heap.size → q ≠ g → ownOf w g ≠ some q → w'.heap[q]? = w.heap[q]? ∧ ownOf w' g ≠ some q
theorem Kx.refl (B g : Nat) (w : World) : Kx B g w w := ⟨Kp.refl _ _ _, fun _ _ _ h => ⟨rfl, h⟩⟩
theorem Kx.trans {B g : Nat} {a b c : World} (h : Kx B g a b) (k : Kx B g b c) : Kx B g a c :=
  ⟨h.kp.trans k.kp, fun q hq hg ho => by
    obtain ⟨h1, h2⟩ := h.far q hq hg ho
    obtain ⟨h3, h4⟩ := k.far q (Nat.lt_of_lt_of_le hq h.kp.size) hg h2
    exact ⟨h3.trans h1, h4⟩⟩
theorem ownOf_below {a b : World} {g : Nat} (h : Below a.heap.size a b) (hg : g < a.heap.size) : ownOf b g = ownOf a g := by
  unfold Go.Proofs.Ytakliplkabgmbaa.ownOf; rw [h.cell hg]
theorem Kx.ofBelow {B g : Nat} {a b : World} (h : Below a.heap.size a b) (hB : B ≤ a.heap.size) (hg : g < B) : Kx B g a b :=
  ⟨Kp.ofBelow h hB, fun q hq _ ho => ⟨h.block q hq, by rw [ownOf_below h (by omega)]; exact ho⟩⟩
theorem Kx.set1 {B g : Nat} {w : World} {T : TypeId} {v x : Value} (h : Blk w g T [v, x]) (y : Value) : Kx B g w (w.setCell ⟨g, 1, none⟩ y) :=
  ⟨Kp.set _ _ _, fun q _ hg ho => ⟨Below.heap_setCell w _ y q hg, by
    have h2 : Blk (w.setCell ⟨g, 1, none⟩ y) g T [v, y] := h.set 1 y
    rw [Blk.ownOf h2, ← Blk.ownOf h]; exact ho⟩⟩
theorem Kx.app {B g : Nat} {w w2 : World} {T : TypeId} {v v' x : Value} (h : Blk w g T [v, x]) (hb : Kp B none w w2) (hg : w.grownBy w2 v.ownBlock) (h2 : Blk w2 g T [v, x]) (hv : ∀ k, v'.ownBlock = some k → v.ownBlock = some k ∨ w.heap.size ≤ k) : Kx B g w (w2.setCell ⟨g, 0, none⟩ v') :=
  ⟨(hb.none).trans (Kp.set _ _ _), fun q hq hgq ho => by
    rw [Blk.ownOf h] at ho
    have h3 : Blk (w2.setCell ⟨g, 0, none⟩ v') g T [v', x] := h2.set 0 v'
    refine ⟨(Below.heap_setCell w2 _ v' q hgq).trans (hg.block q hq (fun e => ho e.symm)), fun e => ?_⟩
    rw [Blk.ownOf h3] at e
    rcases hv q e with h4 | h4
    · exact ho h4
    · omega⟩
theorem Buf.appendK {P : Program} {t ty : TypeId} {B g : Nat} {w : World} {T E : TypeId} {xs : List Value} {v : Value} {l : List UInt8} (h : Buf B w g T E xs v l) (El : Elem P t E (.int .u8 0) 1 1) {x : Value} {m : List UInt8}
    (hsrc : Src P 1 t x m.length (m.map b8) w) (hl : l.length + m.length ≤ 140737488355328) :
    ∃ a' n' c' w', (Builtin.append_ #[t, t] ty #[v, x]).run P w = .ok (.slice a' n' c') w' ∧ Buf B w' g T E xs (.slice a' n' c') (l ++ m) ∧ Kp B none w w' ∧ w.grownBy w' v.ownBlock ∧ (∀ k, (Value.slice a' n' c').ownBlock = some k → v.ownBlock = some k ∨ w.heap.size ≤ k) := by
  obtain ⟨v', w', h1, h2, h3, h4⟩ := append_srcK (ty := ty) El h.own hsrc (by unfold maxLen; omega) (by omega) h.le
  have hv : ∀ k, v.ownBlock = some k → B ≤ k := fun k hk => (h.own.lt k hk).1
  have hk : Kp B none w w' := Kp.ofGrown h3 h.le (fun k hk => .inl (hv k hk))
  obtain ⟨a', c', rfl, _⟩ := owns_at h2
  refine ⟨a', _, c', w', h1, ⟨h.blk.kp hk h.lt (by simp), ?_, h.lt, Nat.le_trans h.le hk.size⟩, hk, h3, h4⟩
  rw [List.length_append, List.map_append]; exact h2
set_option maxHeartbeats 1000000 in
theorem pput_any {B g : Nat} {w : World} {s : List UInt8 × Bool} {a : Option Addr} {n c : Nat} {m : List UInt8} (h : WrAt B w g s) (hn : n = m.length) (hc : n ≤ c) (hr : Row w a (m.map b8)) :
    Calls Try.prog 67 #[.pointer (some ⟨g, 0, none⟩), .slice a n c] w fun e w' => e = .returned (.tuple #[]) ∧ WrAt B w' g (putF s m) ∧ Kx B g w w' := by
  subst hn
  obtain ⟨l, full⟩ := s
  obtain ⟨v, hB, hl⟩ := h
  simp only at hB hl
  obtain ⟨va, vc, rfl, _, _, _, _⟩ := owns_at hB.own
  have c0 : w.cell? ⟨g, 0, none⟩ = some (.slice va l.length vc) := hB.blk.cell rfl
  have c1 : w.cell? ⟨g, 1, none⟩ = some (.bool full) := hB.blk.cell rfl
  have f0 := hB.blk.free 0
  have f1 := hB.blk.free 1
  have hb64 : IntKind.i64.wrap (65536 - (l.length : Int)) = 65536 - (l.length : Int) := IntWalk.i64_in _ (by omega)
  cases full with
  | true =>
    have HP : Hid (putF (l, true) m = (l, true)) := by show _ = _; unfold putF; rw [if_pos (.inl rfl)]
    have HS : Hid (WrAt B (w.setCell ⟨g, 1, none⟩ (.bool true)) g (l, true)) := ⟨_, hB.store 1 (.bool true), hl⟩
    have HK : Hid (Kx B g w (w.setCell ⟨g, 1, none⟩ (.bool true))) := Kx.set1 hB.blk _
    clear hB
    go_enter Try.func67, Try.ntmps67
    go_wp2
    refine bodyPost_ret (results_none (by rfl) _ _ _) rfl ?_
    rw [HP.out]
    exact ⟨rfl, HS.out, HK.out⟩
  | false =>
    by_cases hf : 65536 - l.length < m.length
    · have HP : Hid (putF (l, false) m = (l, true)) := by show _ = _; unfold putF; rw [if_pos (.inr hf)]
      have HS : Hid (WrAt B (w.setCell ⟨g, 1, none⟩ (.bool true)) g (l, true)) := ⟨_, hB.store 1 (.bool true), hl⟩
      have hI : 65536 - (l.length : Int) < (m.length : Int) := by omega
      have HK : Hid (Kx B g w (w.setCell ⟨g, 1, none⟩ (.bool true))) := Kx.set1 hB.blk _
      clear hB
      go_enter Try.func67, Try.ntmps67
      go_wp2
      refine bodyPost_ret (results_none (by rfl) _ _ _) rfl ?_
      rw [HP.out]
      exact ⟨rfl, HS.out, HK.out⟩
    · have HP : Hid (putF (l, false) m = (l ++ m, false)) := by show _ = _; unfold putF; rw [if_neg (by simp; omega)]
      have hI : ¬ 65536 - (l.length : Int) < (m.length : Int) := by omega
      have hsrc : Src Try.prog 1 35 (.slice a m.length c) m.length (m.map b8) w := Src.ofRow eB.ht a m.length c _ (by omega) (by simp) hr (bytes_one m)
      have hml : m.length ≤ 65536 := by omega
      obtain ⟨a', n', c', w2, hrun, hB2, hk, hgr, hvo⟩ := Buf.appendK (ty := 35) hB eB hsrc (by omega)
      have f0' := hB2.blk.free 0
      have e0 : w2.cell? ⟨g, 0, none⟩ = some (.slice va l.length vc) := hB2.blk.cell rfl
      have HS : Hid (WrAt B (w2.setCell ⟨g, 0, none⟩ (.slice a' n' c')) g (l ++ m, false)) := ⟨_, hB2.store 0 _, by simp; omega⟩
      have HK : Hid (Kx B g w (w2.setCell ⟨g, 0, none⟩ (.slice a' n' c'))) := Kx.app hB.blk hk hgr hB2.blk hvo
      clear hB hB2 hk hsrc hgr hvo
      go_enter Try.func67, Try.ntmps67
      go_wp2_with (at_builtin; refine wpList_append_run hrun rfl rfl rfl rfl ?_)
      go_end0
      rw [HP.out]
      exact ⟨rfl, HS.out, HK.out⟩

set_option maxHeartbeats 200000 in
theorem head_any {B g x n : Nat} {w : World} {s : List UInt8 × Bool} (lead : UInt8) (h : WrAt B w g s) (hx : x < 18446744073709551616) (h1 : 1 ≤ n) (h8 : n ≤ 8) :
    Calls Try.prog 90 #[.pointer (some ⟨g, 0, none⟩), .int .u8 (lead.toNat : Int), .int .u64 (x : Int), .int .i64 (n : Int)] w fun e w' => e = .returned (.tuple #[]) ∧ WrAt B w' g (putF (putF s [lead]) (putL x n).reverse) ∧ Kx B g w w' := by
  have hle := h.le
  have hgB := h.lt
  have hb0 : Below w.heap.size w (w.alloc (.cells #[b8 lead] 5)) := (Below.refl _ _).alloc (Nat.le_refl _) _
  have hrow : Row (w.alloc (.cells #[b8 lead] 5)) (some ⟨w.heap.size, 0, none⟩) ([lead].map b8) := (Blk.new w 5 #[b8 lead]).row
  have h0 := h.keep hb0
  have eb : (Value.int .u8 (lead.toNat : Int)) = b8 lead := rfl
  rw [eb]
  go_enter Try.func90, Try.ntmps90
  go_wp2_with fail
  refine (pput_any (m := [lead]) h0 (by rfl) (Nat.le_refl _) hrow).mono ?_
  rintro e w1 ⟨rfl, hw1, hk1⟩
  go_wp2_with fail
  refine (big_any x n w1 hx h1 h8).mono ?_
  rintro e w2 ⟨v2, rfl, hF⟩
  obtain ⟨a2, c2, rfl, hr2, hb2, hm2, hc2⟩ := hF.open
  have hlen : (putL x n).reverse.length = n := by simp
  generalize hM : (putL x n).reverse = M at *
  have HM := Lib.hid hM
  clear hm2 hF hM
  go_wp2_with fail
  refine (pput_any (m := M) (hw1.keep hb2) (by first | rfl | exact hlen.symm) (by first | exact hc2 | omega) hr2).mono ?_
  rintro e w3 ⟨rfl, hw3, hk3⟩
  go_wp2
  go_end0
  rw [HM.out]
  exact ⟨rfl, hw3, ((Kx.ofBelow hb0 hle hgB).trans hk1).trans ((Kx.ofBelow hb2 hw1.le hgB).trans hk3)⟩
end Go.Proofs.Ytakliplkabgmbaa
