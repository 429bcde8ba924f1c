/- Joined: what one statement of this layer stands on, part 4 of 26; nothing is assumed. -/
import Derived.Deep.CutBlock
import Derived.Test.YtpchogicdnfggaaGreatDoorKI1
import Derived.Test.YtpchogicdnfggaaGreatDoorKI2
import Derived.Test.YtpchogicdnfggaaGreatDoorKI3
set_option maxRecDepth 20000
namespace Go.Proofs.YtpchogicdnfggaaGreatDoor
open Go.RowKit Go.Hd

/-- The writer in block g: what it has laid, and whether it gave up. -/
def WrAt (B : Nat) (w : World) (g : Nat) (s : List UInt8 × Bool) : Prop := ∃ v, Buf B w g 107 5 [v, .bool s.2] v s.1 ∧ s.1.length ≤ 65536
def putF (s : List UInt8 × Bool) (m : List UInt8) : List UInt8 × Bool := if s.2 = true ∨ 65536 - s.1.length < m.length then (s.1, true) else (s.1 ++ m, false)
theorem WrAt.keep {B g : Nat} {w w' : World} {s : List UInt8 × Bool} (h : WrAt B w g s) (hb : Below w.heap.size w w') : WrAt B w' g s := by
  obtain ⟨v, h1, h2⟩ := h
  exact ⟨v, h1.keep hb, h2⟩
theorem WrAt.le {B g : Nat} {w : World} {s : List UInt8 × Bool} (h : WrAt B w g s) : B ≤ w.heap.size := by
  obtain ⟨v, h1, _⟩ := h; exact h1.le
theorem WrAt.lt {B g : Nat} {w : World} {s : List UInt8 × Bool} (h : WrAt B w g s) : g < B := by
  obtain ⟨v, h1, _⟩ := h; exact h1.lt
/-- The block that the slice in a block's first cell owns. -/
def ownOf (w : World) (g : Nat) : Option Nat := (w.cell? ⟨g, 0, none⟩).bind Value.ownBlock
theorem Blk.ownOf {w : World} {g : Nat} {T : TypeId} {v : Value} {xs : List Value} (h : Blk w g T (v :: xs)) : ownOf w g = v.ownBlock := by
  unfold Go.Proofs.YtpchogicdnfggaaGreatDoor.ownOf; rw [h.cell (i := 0) (u := v) rfl]; rfl
/-- What the writer in block g may change: its block, its bytes' block; below block B nothing but its block. -/
structure Kx (B g : Nat) (w w' : World) : Prop where
  kp : Kp B (some g) w w'
  far : ∀ q, q < w.heap.size → q ≠ g → ownOf w g ≠ some q → w'.heap[q]? = w.heap[q]? ∧ ownOf w' g ≠ some q
theorem Kx.trans {B g : Nat} {a b c : World} (h : Kx B g a b) (k : Kx B g b c) : Kx B g a c :=
  ⟨h.kp.trans k.kp, fun q hq hg ho => by
    obtain ⟨h1, h2⟩ := h.far q hq hg ho
    obtain ⟨h3, h4⟩ := k.far q (Nat.lt_of_lt_of_le hq h.kp.size) hg h2
    exact ⟨h3.trans h1, h4⟩⟩
theorem ownOf_below {a b : World} {g : Nat} (h : Below a.heap.size a b) (hg : g < a.heap.size) : ownOf b g = ownOf a g := by
  unfold Go.Proofs.YtpchogicdnfggaaGreatDoor.ownOf; rw [h.cell hg]
theorem Kx.ofBelow {B g : Nat} {a b : World} (h : Below a.heap.size a b) (hB : B ≤ a.heap.size) (hg : g < B) : Kx B g a b :=
  ⟨Kp.ofBelow h hB, fun q hq _ ho => ⟨h.block q hq, by rw [ownOf_below h (by omega)]; exact ho⟩⟩
theorem Kx.set1 {B g : Nat} {w : World} {T : TypeId} {v x : Value} (h : Blk w g T [v, x]) (y : Value) : Kx B g w (w.setCell ⟨g, 1, none⟩ y) :=
  ⟨Kp.set _ _ _, fun q _ hg ho => ⟨Below.heap_setCell w _ y q hg, by
    have h2 : Blk (w.setCell ⟨g, 1, none⟩ y) g T [v, y] := h.set 1 y
    rw [Blk.ownOf h2, ← Blk.ownOf h]; exact ho⟩⟩
theorem Kx.app {B g : Nat} {w w2 : World} {T : TypeId} {v v' x : Value} (h : Blk w g T [v, x]) (hb : Kp B none w w2) (hg : w.grownBy w2 v.ownBlock) (h2 : Blk w2 g T [v, x]) (hv : ∀ k, v'.ownBlock = some k → v.ownBlock = some k ∨ w.heap.size ≤ k) : Kx B g w (w2.setCell ⟨g, 0, none⟩ v') :=
  ⟨(hb.none).trans (Kp.set _ _ _), fun q hq hgq ho => by
    rw [Blk.ownOf h] at ho
    have h3 : Blk (w2.setCell ⟨g, 0, none⟩ v') g T [v', x] := h2.set 0 v'
    refine ⟨(Below.heap_setCell w2 _ v' q hgq).trans (hg.block q hq (fun e => ho e.symm)), fun e => ?_⟩
    rw [Blk.ownOf h3] at e
    rcases hv q e with h4 | h4
    · exact ho h4
    · omega⟩
theorem Buf.appendK {P : Program} {t ty : TypeId} {B g : Nat} {w : World} {T E : TypeId} {xs : List Value} {v : Value} {l : List UInt8} (h : Buf B w g T E xs v l) (El : Elem P t E (.int .u8 0) 1 1) {x : Value} {m : List UInt8}
    (hsrc : Src P 1 t x m.length (m.map b8) w) (hl : l.length + m.length ≤ 140737488355328) :
    ∃ a' n' c' w', (Builtin.append_ #[t, t] ty #[v, x]).run P w = .ok (.slice a' n' c') w' ∧ Buf B w' g T E xs (.slice a' n' c') (l ++ m) ∧ Kp B none w w' ∧ w.grownBy w' v.ownBlock ∧ (∀ k, (Value.slice a' n' c').ownBlock = some k → v.ownBlock = some k ∨ w.heap.size ≤ k) := by
  obtain ⟨v', w', h1, h2, h3, h4⟩ := append_srcK (ty := ty) El h.own hsrc (by unfold maxLen; omega) (by omega) h.le
  have hv : ∀ k, v.ownBlock = some k → B ≤ k := fun k hk => (h.own.lt k hk).1
  have hk : Kp B none w w' := Kp.ofGrown h3 h.le (fun k hk => .inl (hv k hk))
  obtain ⟨a', c', rfl, _⟩ := owns_at h2
  refine ⟨a', _, c', w', h1, ⟨h.blk.kp hk h.lt (by simp), ?_, h.lt, Nat.le_trans h.le hk.size⟩, hk, h3, h4⟩
  rw [List.length_append, List.map_append]; exact h2
set_option maxHeartbeats 1000000 in
theorem pput_any {B g : Nat} {w : World} {s : List UInt8 × Bool} {a : Option Addr} {n c : Nat} {m : List UInt8} (h : WrAt B w g s) (hn : n = m.length) (hc : n ≤ c) (hr : Row w a (m.map b8)) :
    Calls Tryz.prog 79 #[.pointer (some ⟨g, 0, none⟩), .slice a n c] w fun e w' => e = .returned (.tuple #[]) ∧ WrAt B w' g (putF s m) ∧ Kx B g w w' := by
  subst hn
  obtain ⟨l, full⟩ := s
  obtain ⟨v, hB, hl⟩ := h
  simp only at hB hl
  obtain ⟨va, vc, rfl, _, _, _, _⟩ := owns_at hB.own
  have c0 : w.cell? ⟨g, 0, none⟩ = some (.slice va l.length vc) := hB.blk.cell rfl
  have c1 : w.cell? ⟨g, 1, none⟩ = some (.bool full) := hB.blk.cell rfl
  have f0 := hB.blk.free 0
  have f1 := hB.blk.free 1
  have hb64 : IntKind.i64.wrap (65536 - (l.length : Int)) = 65536 - (l.length : Int) := IntWalk.i64_in _ (by omega)
  cases full with
  | true =>
    have HP : Hid (putF (l, true) m = (l, true)) := by show _ = _; unfold putF; rw [if_pos (.inl rfl)]
    have HS : Hid (WrAt B (w.setCell ⟨g, 1, none⟩ (.bool true)) g (l, true)) := ⟨_, hB.store 1 (.bool true), hl⟩
    have HK : Hid (Kx B g w (w.setCell ⟨g, 1, none⟩ (.bool true))) := Kx.set1 hB.blk _
    clear hB
    go_enter Tryz.func79, Tryz.ntmps79
    go_wp2
    refine bodyPost_ret (results_none (by rfl) _ _ _) rfl ?_
    rw [HP.out]
    exact ⟨rfl, HS.out, HK.out⟩
  | false =>
    by_cases hf : 65536 - l.length < m.length
    · have HP : Hid (putF (l, false) m = (l, true)) := by show _ = _; unfold putF; rw [if_pos (.inr hf)]
      have HS : Hid (WrAt B (w.setCell ⟨g, 1, none⟩ (.bool true)) g (l, true)) := ⟨_, hB.store 1 (.bool true), hl⟩
      have hI : 65536 - (l.length : Int) < (m.length : Int) := by omega
      have HK : Hid (Kx B g w (w.setCell ⟨g, 1, none⟩ (.bool true))) := Kx.set1 hB.blk _
      clear hB
      go_enter Tryz.func79, Tryz.ntmps79
      go_wp2
      refine bodyPost_ret (results_none (by rfl) _ _ _) rfl ?_
      rw [HP.out]
      exact ⟨rfl, HS.out, HK.out⟩
    · have HP : Hid (putF (l, false) m = (l ++ m, false)) := by show _ = _; unfold putF; rw [if_neg (by simp; omega)]
      have hI : ¬ 65536 - (l.length : Int) < (m.length : Int) := by omega
      have hsrc : Src Tryz.prog 1 22 (.slice a m.length c) m.length (m.map b8) w := Src.ofRow eB.ht a m.length c _ (by omega) (by simp) hr (bytes_one m)
      have hml : m.length ≤ 65536 := by omega
      obtain ⟨a', n', c', w2, hrun, hB2, hk, hgr, hvo⟩ := Buf.appendK (ty := 22) hB eB hsrc (by omega)
      have f0' := hB2.blk.free 0
      have e0 : w2.cell? ⟨g, 0, none⟩ = some (.slice va l.length vc) := hB2.blk.cell rfl
      have HS : Hid (WrAt B (w2.setCell ⟨g, 0, none⟩ (.slice a' n' c')) g (l ++ m, false)) := ⟨_, hB2.store 0 _, by simp; omega⟩
      have HK : Hid (Kx B g w (w2.setCell ⟨g, 0, none⟩ (.slice a' n' c'))) := Kx.app hB.blk hk hgr hB2.blk hvo
      clear hB hB2 hk hsrc hgr hvo
      go_enter Tryz.func79, Tryz.ntmps79
      go_wp2_with (at_builtin; refine wpList_append_run hrun rfl rfl rfl rfl ?_)
      go_end0
      rw [HP.out]
      exact ⟨rfl, HS.out, HK.out⟩

set_option maxHeartbeats 200000 in
theorem head_any {B g x n : Nat} {w : World} {s : List UInt8 × Bool} (lead : UInt8) (h : WrAt B w g s) (hx : x < 18446744073709551616) (h1 : 1 ≤ n) (h8 : n ≤ 8) :
    Calls Tryz.prog 102 #[.pointer (some ⟨g, 0, none⟩), .int .u8 (lead.toNat : Int), .int .u64 (x : Int), .int .i64 (n : Int)] w fun e w' => e = .returned (.tuple #[]) ∧ WrAt B w' g (putF (putF s [lead]) (putL x n).reverse) ∧ Kx B g w w' := by
  have hle := h.le
  have hgB := h.lt
  have hb0 : Below w.heap.size w (w.alloc (.cells #[b8 lead] 5)) := (Below.refl _ _).alloc (Nat.le_refl _) _
  have hrow : Row (w.alloc (.cells #[b8 lead] 5)) (some ⟨w.heap.size, 0, none⟩) ([lead].map b8) := (Blk.new w 5 #[b8 lead]).row
  have h0 := h.keep hb0
  have eb : (Value.int .u8 (lead.toNat : Int)) = b8 lead := rfl
  rw [eb]
  go_enter Tryz.func102, Tryz.ntmps102
  go_wp2_with fail
  refine (pput_any (m := [lead]) h0 (by rfl) (Nat.le_refl _) hrow).mono ?_
  rintro e w1 ⟨rfl, hw1, hk1⟩
  go_wp2_with fail
  refine (big_any x n w1 hx h1 h8).mono ?_
  rintro e w2 ⟨v2, rfl, hF⟩
  obtain ⟨a2, c2, rfl, hr2, hb2, hm2, hc2⟩ := hF.open
  have hlen : (putL x n).reverse.length = n := by simp
  generalize hM : (putL x n).reverse = M at *
  have HM := Lib.hid hM
  clear hm2 hF hM
  go_wp2_with fail
  refine (pput_any (m := M) (hw1.keep hb2) (by first | rfl | exact hlen.symm) (by first | exact hc2 | omega) hr2).mono ?_
  rintro e w3 ⟨rfl, hw3, hk3⟩
  go_wp2
  go_end0
  rw [HM.out]
  exact ⟨rfl, hw3, ((Kx.ofBelow hb0 hle hgB).trans hk1).trans ((Kx.ofBelow hb2 hw1.le hgB).trans hk3)⟩
end Go.Proofs.YtpchogicdnfggaaGreatDoor
set_option maxRecDepth 20000
namespace Go.Proofs.YtpchogicdnfggaaGreatDoor
open Go.RowKit Go.Hd

/-- What the writer has laid, or that it gave up. -/
def absW (s : List UInt8 × Bool) : Option (List UInt8) := if s.2 = true then none else some s.1
def putO (o : Option (List UInt8)) (m : List UInt8) : Option (List UInt8) := o.bind fun l => if 65536 < l.length + m.length then none else some (l ++ m)
def WrO (B : Nat) (w : World) (g : Nat) (o : Option (List UInt8)) : Prop := ∃ s, WrAt B w g s ∧ absW s = o
theorem WrO.keep {B g : Nat} {w w' : World} {o : Option (List UInt8)} (h : WrO B w g o) (hb : Below w.heap.size w w') : WrO B w' g o := by
  obtain ⟨s, h1, h2⟩ := h
  exact ⟨s, h1.keep hb, h2⟩
theorem WrO.le {B g : Nat} {w : World} {o : Option (List UInt8)} (h : WrO B w g o) : B ≤ w.heap.size := by
  obtain ⟨s, h1, _⟩ := h; exact h1.le
theorem WrO.lt {B g : Nat} {w : World} {o : Option (List UInt8)} (h : WrO B w g o) : g < B := by
  obtain ⟨s, h1, _⟩ := h; exact h1.lt
theorem putO_two (o : Option (List UInt8)) (a b : List UInt8) : putO (putO o a) b = putO o (a ++ b) := by
  cases o with
  | none => rfl
  | some l =>
    unfold putO
    simp only [Option.bind_some, List.length_append]
    by_cases h1 : 65536 < l.length + a.length
    · rw [if_pos h1, if_pos (by omega)]; rfl
    · rw [if_neg h1]
      simp only [Option.bind_some, List.length_append]
      by_cases h2 : 65536 < l.length + (a.length + b.length)
      · rw [if_pos h2, if_pos (by omega)]
      · rw [if_neg h2, if_neg (by omega), List.append_assoc]
theorem putF_abs {s : List UInt8 × Bool} {m : List UInt8} (hl : s.1.length ≤ 65536) : absW (putF s m) = putO (absW s) m := by
  obtain ⟨l, f⟩ := s
  cases f with
  | true => simp [putF, absW, putO]
  | false =>
    simp only at hl
    unfold putF absW putO
    by_cases h : 65536 - l.length < m.length
    · simp [h]; omega
    · simp [h]; omega
theorem WrAt.small {B g : Nat} {w : World} {s : List UInt8 × Bool} (h : WrAt B w g s) : s.1.length ≤ 65536 := by
  obtain ⟨v, _, h2⟩ := h; exact h2
theorem putF_small {s : List UInt8 × Bool} {m : List UInt8} (hl : s.1.length ≤ 65536) : (putF s m).1.length ≤ 65536 := by
  unfold putF
  split
  · exact hl
  · rename_i h; simp at h ⊢; omega
theorem put_o {B g : Nat} {w : World} {o : Option (List UInt8)} {a : Option Addr} {n c : Nat} {m : List UInt8} (h : WrO B w g o) (hn : n = m.length) (hc : n ≤ c) (hr : Row w a (m.map b8)) :
    Calls Tryz.prog 79 #[.pointer (some ⟨g, 0, none⟩), .slice a n c] w fun e w' => e = .returned (.tuple #[]) ∧ WrO B w' g (putO o m) ∧ Kx B g w w' := by
  obtain ⟨s, h1, rfl⟩ := h
  refine (pput_any h1 hn hc hr).mono ?_
  rintro e w' ⟨rfl, h2, hk⟩
  exact ⟨rfl, ⟨_, h2, putF_abs h1.small⟩, hk⟩
theorem head_o {B g x n : Nat} {w : World} {o : Option (List UInt8)} {zl zx : Int} (lead : UInt8) (h : WrO B w g o) (hzl : zl = (lead.toNat : Int)) (hzx : zx = (x : Int)) (hx : x < 18446744073709551616) (h1 : 1 ≤ n) (h8 : n ≤ 8) :
    Calls Tryz.prog 102 #[.pointer (some ⟨g, 0, none⟩), .int .u8 zl, .int .u64 zx, .int .i64 (n : Int)] w fun e w' => e = .returned (.tuple #[]) ∧ WrO B w' g (putO o (lead :: bigB x n)) ∧ Kx B g w w' := by
  subst hzl hzx
  obtain ⟨s, hs, rfl⟩ := h
  refine (head_any lead hs hx h1 h8).mono ?_
  rintro e w' ⟨rfl, h2, hk⟩
  refine ⟨rfl, ⟨_, h2, ?_⟩, hk⟩
  rw [putF_abs (putF_small hs.small), putF_abs hs.small, putO_two]
  rfl
theorem u64_nat {x : Int} : IntKind.u64.wrap x = ((u64Of x : Nat) : Int) := by
  unfold u64Of; rw [IntKind.wrap_u64]; omega
theorem u64_pos {x : Int} (h0 : 0 ≤ x) (h : x ≤ 9223372036854775807) : x = ((u64Of x : Nat) : Int) := by
  unfold u64Of; omega
theorem u64_lt (x : Int) : u64Of x < 18446744073709551616 := by unfold u64Of; omega
theorem byte_of (x : Int) : IntKind.u8.wrap x = ((UInt8.ofNat (x % 256).toNat).toNat : Int) := by
  rw [IntKind.wrap_u8, UInt8.toNat_ofNat']; try omega

set_option maxHeartbeats 2000000 in
theorem number_any {B g : Nat} {w : World} {o : Option (List UInt8)} {x : Int} (h : WrO B w g o) (hx : in64 x) :
    Calls Tryz.prog 80 #[.pointer (some ⟨g, 0, none⟩), .int .i64 x] w fun e w' => e = .returned (.tuple #[]) ∧ WrO B w' g (putO o (intB x)) ∧ Kx B g w w' := by
  obtain ⟨hx1, hx2⟩ := hx
  have hl64 := u64_lt x
  by_cases h1 : -32 ≤ x ∧ x ≤ 127
  · obtain ⟨p, q⟩ := h1
    have HB : Hid (intB x = [UInt8.ofNat (x % 256).toNat]) := by show _ = _; unfold intB; rw [if_pos ⟨p, q⟩]
    have hle := h.le
    have hgB := h.lt
    have hb0 : Below w.heap.size w (w.alloc (.cells #[b8 (UInt8.ofNat (x % 256).toNat)] 5)) := (Below.refl _ _).alloc (Nat.le_refl _) _
    have hrow : Row (w.alloc (.cells #[b8 (UInt8.ofNat (x % 256).toNat)] 5)) (some ⟨w.heap.size, 0, none⟩) ([UInt8.ofNat (x % 256).toNat].map b8) := (Blk.new w 5 #[b8 (UInt8.ofNat (x % 256).toNat)]).row
    have h0 := h.keep hb0
    have e8 : (Value.int .u8 (IntKind.u8.wrap x)) = b8 (UInt8.ofNat (x % 256).toNat) := by rw [byte_of]; try rfl
    generalize UInt8.ofNat (x % 256).toNat = c at *
    go_enter Tryz.func80, Tryz.ntmps80
    go_wp2_with fail
    refine (put_o (m := [c]) h0 (by rfl) (Nat.le_refl _) hrow).mono ?_
    rintro e w1 ⟨rfl, hw1, hk1⟩
    go_wp2
    go_end0
    rw [HB.out]
    exact ⟨rfl, hw1, (Kx.ofBelow hb0 hle hgB).trans hk1⟩
  · have hx9 := h1
    clear h1
    by_cases p0 : 0 ≤ x
    · have pm : -32 ≤ x := by omega
      have n127 : ¬ x ≤ 127 := by omega
      have eU := u64_pos p0 hx2
      have HU := Lib.hid eU
      clear eU
      by_cases q255 : x ≤ 255
      · have HB : Hid (intB x = 0xcc :: bigB (u64Of x) 1) := by show _ = _; unfold intB; rw [if_neg hx9, if_pos p0, if_pos q255]
        clear hx9
        go_enter Tryz.func80, Tryz.ntmps80
        go_wp2_with fail
        refine (head_o (x := u64Of x) (n := 1) 0xcc h (by rfl) (by first | exact HU.out | exact u64_nat) hl64 (by decide) (by decide)).mono ?_
        rintro e w1 ⟨rfl, hw1, hk1⟩
        go_wp2
        go_end0
        rw [HB.out]
        exact ⟨rfl, hw1, hk1⟩
      · by_cases q65535 : x ≤ 65535
        · have HB : Hid (intB x = 0xcd :: bigB (u64Of x) 2) := by show _ = _; unfold intB; rw [if_neg hx9, if_pos p0, if_neg q255, if_pos q65535]
          clear hx9
          go_enter Tryz.func80, Tryz.ntmps80
          go_wp2_with fail
          refine (head_o (x := u64Of x) (n := 2) 0xcd h (by rfl) (by first | exact HU.out | exact u64_nat) hl64 (by decide) (by decide)).mono ?_
          rintro e w1 ⟨rfl, hw1, hk1⟩
          go_wp2
          go_end0
          rw [HB.out]
          exact ⟨rfl, hw1, hk1⟩
        · by_cases q4294967295 : x ≤ 4294967295
          · have HB : Hid (intB x = 0xce :: bigB (u64Of x) 4) := by show _ = _; unfold intB; rw [if_neg hx9, if_pos p0, if_neg q255, if_neg q65535, if_pos q4294967295]
            clear hx9
            go_enter Tryz.func80, Tryz.ntmps80
            go_wp2_with fail
            refine (head_o (x := u64Of x) (n := 4) 0xce h (by rfl) (by first | exact HU.out | exact u64_nat) hl64 (by decide) (by decide)).mono ?_
            rintro e w1 ⟨rfl, hw1, hk1⟩
            go_wp2
            go_end0
            rw [HB.out]
            exact ⟨rfl, hw1, hk1⟩
          · have HB : Hid (intB x = 0xcf :: bigB (u64Of x) 8) := by show _ = _; unfold intB; rw [if_neg hx9, if_pos p0, if_neg q255, if_neg q65535, if_neg q4294967295]
            clear hx9
            go_enter Tryz.func80, Tryz.ntmps80
            go_wp2_with fail
            refine (head_o (x := u64Of x) (n := 8) 0xcf h (by rfl) (by first | exact HU.out | exact u64_nat) hl64 (by decide) (by decide)).mono ?_
            rintro e w1 ⟨rfl, hw1, hk1⟩
            go_wp2
            go_end0
            rw [HB.out]
            exact ⟨rfl, hw1, hk1⟩
    · have nm : ¬ -32 ≤ x := by omega
      by_cases q128 : -128 ≤ x
      · have HB : Hid (intB x = 0xd0 :: bigB (u64Of x) 1) := by show _ = _; unfold intB; rw [if_neg hx9, if_neg p0, if_pos q128]
        clear hx9
        go_enter Tryz.func80, Tryz.ntmps80
        go_wp2_with fail
        refine (head_o (x := u64Of x) (n := 1) 0xd0 h (by rfl) (by first | exact u64_nat | exact u64_nat) hl64 (by decide) (by decide)).mono ?_
        rintro e w1 ⟨rfl, hw1, hk1⟩
        go_wp2
        go_end0
        rw [HB.out]
        exact ⟨rfl, hw1, hk1⟩
      · by_cases q32768 : -32768 ≤ x
        · have HB : Hid (intB x = 0xd1 :: bigB (u64Of x) 2) := by show _ = _; unfold intB; rw [if_neg hx9, if_neg p0, if_neg q128, if_pos q32768]
          clear hx9
          go_enter Tryz.func80, Tryz.ntmps80
          go_wp2_with fail
          refine (head_o (x := u64Of x) (n := 2) 0xd1 h (by rfl) (by first | exact u64_nat | exact u64_nat) hl64 (by decide) (by decide)).mono ?_
          rintro e w1 ⟨rfl, hw1, hk1⟩
          go_wp2
          go_end0
          rw [HB.out]
          exact ⟨rfl, hw1, hk1⟩
        · by_cases q2147483648 : -2147483648 ≤ x
          · have HB : Hid (intB x = 0xd2 :: bigB (u64Of x) 4) := by show _ = _; unfold intB; rw [if_neg hx9, if_neg p0, if_neg q128, if_neg q32768, if_pos q2147483648]
            clear hx9
            go_enter Tryz.func80, Tryz.ntmps80
            go_wp2_with fail
            refine (head_o (x := u64Of x) (n := 4) 0xd2 h (by rfl) (by first | exact u64_nat | exact u64_nat) hl64 (by decide) (by decide)).mono ?_
            rintro e w1 ⟨rfl, hw1, hk1⟩
            go_wp2
            go_end0
            rw [HB.out]
            exact ⟨rfl, hw1, hk1⟩
          · have HB : Hid (intB x = 0xd3 :: bigB (u64Of x) 8) := by show _ = _; unfold intB; rw [if_neg hx9, if_neg p0, if_neg q128, if_neg q32768, if_neg q2147483648]
            clear hx9
            go_enter Tryz.func80, Tryz.ntmps80
            go_wp2_with fail
            refine (head_o (x := u64Of x) (n := 8) 0xd3 h (by rfl) (by first | exact u64_nat | exact u64_nat) hl64 (by decide) (by decide)).mono ?_
            rintro e w1 ⟨rfl, hw1, hk1⟩
            go_wp2
            go_end0
            rw [HB.out]
            exact ⟨rfl, hw1, hk1⟩
end Go.Proofs.YtpchogicdnfggaaGreatDoor
set_option maxRecDepth 20000
namespace Go.Proofs.YtpchogicdnfggaaGreatDoor
open Go.RowKit Go.Hd

theorem WrO.cells {B g : Nat} {w : World} {o : Option (List UInt8)} (h : WrO B w g o) : ∃ v full, w.cell? ⟨g, 1, none⟩ = some (.bool full) ∧ w.cell? ⟨g, 0, none⟩ = some v ∧ w.frozen? ⟨g, 1, none⟩ = false := by
  obtain ⟨s, ⟨v, hB, _⟩, _⟩ := h
  exact ⟨v, s.2, hB.blk.cell rfl, hB.blk.cell rfl, hB.blk.free 1⟩
theorem WrO.fail {B g : Nat} {w : World} {o : Option (List UInt8)} (h : WrO B w g o) : WrO B (w.setCell ⟨g, 1, none⟩ (.bool true)) g none := by
  obtain ⟨s, ⟨v, hB, hl⟩, _⟩ := h
  exact ⟨(s.1, true), ⟨v, hB.store 1 (.bool true), hl⟩, rfl⟩
theorem putO_none (m : List UInt8) : putO none m = none := rfl
/-- Bytes behind a head of one or two bytes. -/
def blobO (o : Option (List UInt8)) (m : List UInt8) : Option (List UInt8) :=
  if m.length ≤ 255 then putO o (0xc4 :: (bigB m.length 1 ++ m)) else if m.length ≤ 65535 then putO o (0xc5 :: (bigB m.length 2 ++ m)) else none
theorem WrO.setx {B g : Nat} {w : World} {o : Option (List UInt8)} (h : WrO B w g o) (y : Value) : Kx B g w (w.setCell ⟨g, 1, none⟩ y) := by
  obtain ⟨s, ⟨v, hB, _⟩, _⟩ := h
  exact Kx.set1 hB.blk _
/-- What was there ahead of the writer is as it was. -/
theorem Kp.past {B g base : Nat} {a b : World} (h : Kp B (some g) a b) (hg : base ≤ g) (hB : g < B) : Below base a b :=
  h.below (by omega) (fun k hk => by cases hk; exact hg)
set_option maxHeartbeats 1000000 in
theorem blob_any {B g : Nat} {w0 w : World} {o : Option (List UInt8)} {a : Option Addr} {n c : Nat} {m : List UInt8} (h : WrO B w g o) (hn : n = m.length) (hc : n ≤ c) (hr : Row w0 a (m.map b8)) (hb : Below w0.heap.size w0 w) (hg : w0.heap.size ≤ g) :
    Calls Tryz.prog 81 #[.pointer (some ⟨g, 0, none⟩), .slice a n c] w fun e w' => e = .returned (.tuple #[]) ∧ WrO B w' g (blobO o m) ∧ Kx B g w w' := by
  subst hn
  obtain ⟨v0, full, c1, c0, f1⟩ := h.cells
  have hgB := h.lt
  by_cases h1 : m.length ≤ 255
  · have HB : Hid (blobO o m = putO (putO o (0xc4 :: bigB m.length 1)) m) := by show _ = _; unfold blobO; rw [if_pos h1, putO_two]; rfl
    have i1 : (m.length : Int) ≤ 255 := by omega
    go_enter Tryz.func81, Tryz.ntmps81
    go_wp2_with fail
    refine (head_o (x := m.length) (n := 1) 0xc4 h (by rfl) (by first | rfl | (rw [IntKind.wrap_u64]; omega)) (by omega) (by decide) (by decide)).mono ?_
    rintro e w1 ⟨rfl, hw1, hk1⟩
    go_wp2_with fail
    refine (put_o (m := m) hw1 rfl hc (hr.below (hb.trans (Kp.past hk1.kp hg hgB)))).mono ?_
    rintro e w2 ⟨rfl, hw2, hk2⟩
    go_wp2
    go_end0
    rw [HB.out]
    exact ⟨rfl, hw2, hk1.trans hk2⟩
  · have i1 : ¬ (m.length : Int) ≤ 255 := by omega
    by_cases h2 : m.length ≤ 65535
    · have HB : Hid (blobO o m = putO (putO o (0xc5 :: bigB m.length 2)) m) := by show _ = _; unfold blobO; rw [if_neg h1, if_pos h2, putO_two]; rfl
      have i2 : (m.length : Int) ≤ 65535 := by omega
      clear h1
      go_enter Tryz.func81, Tryz.ntmps81
      go_wp2_with fail
      refine (head_o (x := m.length) (n := 2) 0xc5 h (by rfl) (by first | rfl | (rw [IntKind.wrap_u64]; omega)) (by omega) (by decide) (by decide)).mono ?_
      rintro e w1 ⟨rfl, hw1, hk1⟩
      go_wp2_with fail
      refine (put_o (m := m) hw1 rfl hc (hr.below (hb.trans (Kp.past hk1.kp hg hgB)))).mono ?_
      rintro e w2 ⟨rfl, hw2, hk2⟩
      go_wp2
      go_end0
      rw [HB.out]
      exact ⟨rfl, hw2, hk1.trans hk2⟩
    · have HB : Hid (blobO o m = putO none m) := by show _ = _; unfold blobO; rw [if_neg h1, if_neg h2, putO_none]
      have i2 : ¬ (m.length : Int) ≤ 65535 := by omega
      have hf := h.fail
      have hk1 : Kx B g w (w.setCell ⟨g, 1, none⟩ (.bool true)) := h.setx _
      have hrow := hr.below (hb.trans (Kp.past hk1.kp hg hgB))
      generalize hW : w.setCell ⟨g, 1, none⟩ (.bool true) = w1 at *
      clear h1 h2
      go_enter Tryz.func81, Tryz.ntmps81
      go_wp2_with fail
      refine (put_o (m := m) hf rfl hc hrow).mono ?_
      rintro e w2 ⟨rfl, hw2, hk2⟩
      go_wp2
      go_end0
      rw [HB.out]
      exact ⟨rfl, hw2, hk1.trans hk2⟩
end Go.Proofs.YtpchogicdnfggaaGreatDoor
set_option maxRecDepth 20000
namespace Go.Proofs.YtpchogicdnfggaaGreatDoor
open Go.RowKit Go.Hd

/-- A head by how many there are. -/
def manyO (few lead : UInt8) (o : Option (List UInt8)) (n : Nat) : Option (List UInt8) :=
  if n ≤ 15 then putO o [few ||| UInt8.ofNat n] else if n ≤ 65535 then putO o (lead :: bigB n 2) else none
theorem or_few (few : UInt8) (hf : few = 0x90 ∨ few = 0x80) : ∀ n : Nat, n ≤ 15 → bits BinOp.or IntKind.u8 (few.toNat : Int) (n : Int) = ((few ||| UInt8.ofNat n).toNat : Int) := by
  intro n hn
  rcases hf with rfl | rfl <;> (match n, hn with
    | 0, _ | 1, _ | 2, _ | 3, _ | 4, _ | 5, _ | 6, _ | 7, _ | 8, _ | 9, _ | 10, _ | 11, _ | 12, _ | 13, _ | 14, _ | 15, _ => rfl)
set_option maxHeartbeats 1000000 in
theorem many_any {B g n : Nat} {w : World} {o : Option (List UInt8)} (few lead : UInt8) (hfew : few = 0x90 ∨ few = 0x80) (h : WrO B w g o) (hm : n ≤ maxLen) :
    Calls Tryz.prog 83 #[.pointer (some ⟨g, 0, none⟩), .int .u8 (few.toNat : Int), .int .u8 (lead.toNat : Int), .int .i64 (n : Int)] w fun e w' => e = .returned (.tuple #[]) ∧ WrO B w' g (manyO few lead o n) ∧ Kx B g w w' := by
  unfold maxLen at hm
  obtain ⟨v0, full, c1, c0, f1⟩ := h.cells
  have hle := h.le
  by_cases h1 : n ≤ 15
  · have HB : Hid (manyO few lead o n = putO o [few ||| UInt8.ofNat n]) := by show _ = _; unfold manyO; rw [if_pos h1]
    have i1 : (n : Int) ≤ 15 := by omega
    have HOR := Lib.hid (or_few few hfew n h1)
    clear c1 c0 f1 hm
    go_enter Tryz.func83, Tryz.ntmps83
    go_wp2_with fail
    rw [HOR.out]
    have hb0 : Below w.heap.size w (w.alloc (.cells #[b8 (few ||| UInt8.ofNat n)] 5)) := (Below.refl _ _).alloc (Nat.le_refl _) _
    have hrow : Row (w.alloc (.cells #[b8 (few ||| UInt8.ofNat n)] 5)) (some ⟨w.heap.size, 0, none⟩) ([few ||| UInt8.ofNat n].map b8) := (Blk.new w 5 #[b8 (few ||| UInt8.ofNat n)]).row
    refine (put_o (m := [few ||| UInt8.ofNat n]) (h.keep hb0) (by rfl) (Nat.le_refl _) hrow).mono ?_
    rintro e w1 ⟨rfl, hw1, hk1⟩
    go_wp2
    go_end0
    rw [HB.out]
    exact ⟨rfl, hw1, (Kx.ofBelow hb0 hle h.lt).trans hk1⟩
  · have i1 : ¬ (n : Int) ≤ 15 := by omega
    by_cases h2 : n ≤ 65535
    · have HB : Hid (manyO few lead o n = putO o (lead :: bigB n 2)) := by show _ = _; unfold manyO; rw [if_neg h1, if_pos h2]
      have i2 : (n : Int) ≤ 65535 := by omega
      go_enter Tryz.func83, Tryz.ntmps83
      go_wp2_with fail
      refine (head_o (x := n) (n := 2) lead h (by rfl) (by first | rfl | (rw [IntKind.wrap_u64]; omega)) (by omega) (by decide) (by decide)).mono ?_
      rintro e w1 ⟨rfl, hw1, hk1⟩
      go_wp2
      go_end0
      rw [HB.out]
      exact ⟨rfl, hw1, hk1⟩
    · have HB : Hid (manyO few lead o n = none) := by show _ = _; unfold manyO; rw [if_neg h1, if_neg h2]
      have i2 : ¬ (n : Int) ≤ 65535 := by omega
      have hf := h.fail
      have hk1 : Kx B g w (w.setCell ⟨g, 1, none⟩ (.bool true)) := h.setx _
      go_enter Tryz.func83, Tryz.ntmps83
      go_wp2
      go_end0
      rw [HB.out]
      exact ⟨rfl, hf, hk1⟩
end Go.Proofs.YtpchogicdnfggaaGreatDoor
set_option maxRecDepth 20000
namespace Go.Proofs.YtpchogicdnfggaaGreatDoor
open Go.RowKit Go.Hd

section
variable (ρ : Operand → Value) (dst : Option Tmp) (ty : TypeId) (pos : String) (after : Array Edge) (guard : Option (Nat × Bool))
theorem h_cv (x : Operand) : execOp ρ { dst, op := .convert 9 22 x, type := ty, pos, after, guard } = (do pure (.value (← cvOp 9 22 (ρ x)))) := rfl
end
theorem r_cv {w : World} {l : List UInt8} : (cvOp 9 22 (.string (str l))).run Tryz.prog w = .ok (.slice (some ⟨w.heap.size, 0, none⟩) l.length (cvC 5 w l)) (cvW 5 w l) := cvOp_run Tryz.underlying9 Tryz.underlying22 Tryz.underlying5
attribute [local go_sem ↓] h_cv
attribute [local go_sem] r_cv
theorem or_text : ∀ n : Nat, n ≤ 31 → bits BinOp.or IntKind.u8 160 (n : Int) = (((0xa0 : UInt8) ||| UInt8.ofNat n).toNat : Int) := by
  intro n hn
  have h : ∀ k : Fin 32, bits BinOp.or IntKind.u8 160 (k.val : Int) = (((0xa0 : UInt8) ||| UInt8.ofNat k.val).toNat : Int) := by decide
  exact h ⟨n, by omega⟩
def textO (o : Option (List UInt8)) (m : List UInt8) : Option (List UInt8) :=
  if m.length ≤ 31 then putO o ((0xa0 ||| UInt8.ofNat m.length) :: m) else if m.length ≤ 255 then putO o (0xd9 :: (bigB m.length 1 ++ m)) else if m.length ≤ 65535 then putO o (0xda :: (bigB m.length 2 ++ m)) else none
/-- The last step: the text's bytes. -/
theorem put_text {B g : Nat} {w : World} {o : Option (List UInt8)} {m : List UInt8} (h : WrO B w g o) (hm : m.length ≤ maxLen) :
    Calls Tryz.prog 79 #[.pointer (some ⟨g, 0, none⟩), .slice (some ⟨w.heap.size, 0, none⟩) m.length (cvC 5 w m)] (cvW 5 w m) fun e w' => e = .returned (.tuple #[]) ∧ WrO B w' g (putO o m) ∧ Kx B g w w' := by
  obtain ⟨a, c, he, hc, _, hrow⟩ := (cvW_own (E := 5) (w := w) (Nat.le_refl _) hm).rd
  simp only [Value.slice.injEq] at he
  obtain ⟨rfl, _, rfl⟩ := he
  refine (put_o (m := m) (h.keep (cvW_below 5 w m)) rfl hc hrow).mono ?_
  rintro e w' ⟨rfl, h2, hk⟩
  exact ⟨rfl, h2, (Kx.ofBelow (cvW_below 5 w m) h.le h.lt).trans hk⟩
set_option maxHeartbeats 1000000 in
theorem text_o {B g : Nat} {w : World} {o : Option (List UInt8)} {m : List UInt8} (h : WrO B w g o) (hm : m.length ≤ maxLen) :
    Calls Tryz.prog 82 #[.pointer (some ⟨g, 0, none⟩), .string (str m)] w fun e w' => e = .returned (.tuple #[]) ∧ WrO B w' g (textO o m) ∧ Kx B g w w' := by
  have hM := hm
  unfold maxLen at hM
  obtain ⟨v0, full, c1, c0, f1⟩ := h.cells
  have hle := h.le
  have hsz : (str m).size = m.length := str_size m
  by_cases h1 : m.length ≤ 31
  · have HB : Hid (textO o m = putO (putO o [0xa0 ||| UInt8.ofNat m.length]) m) := by show _ = _; unfold textO; rw [if_pos h1, putO_two]; rfl
    have i1 : (m.length : Int) ≤ 31 := by omega
    have HOR := Lib.hid (or_text m.length h1)
    clear c1 c0 f1
    go_enter Tryz.func82, Tryz.ntmps82
    go_wp2_with fail
    rw [HOR.out]
    have hb0 : Below w.heap.size w (w.alloc (.cells #[b8 (0xa0 ||| UInt8.ofNat m.length)] 5)) := (Below.refl _ _).alloc (Nat.le_refl _) _
    have hrow : Row (w.alloc (.cells #[b8 (0xa0 ||| UInt8.ofNat m.length)] 5)) (some ⟨w.heap.size, 0, none⟩) ([0xa0 ||| UInt8.ofNat m.length].map b8) := (Blk.new w 5 #[b8 (0xa0 ||| UInt8.ofNat m.length)]).row
    refine (put_o (m := [0xa0 ||| UInt8.ofNat m.length]) (h.keep hb0) (by rfl) (Nat.le_refl _) hrow).mono ?_
    rintro e w1 ⟨rfl, hw1, hk1⟩
    go_wp2_with fail
    refine (put_text hw1 hm).mono ?_
    rintro e w2 ⟨rfl, hw2, hk2⟩
    go_wp2
    go_end0
    rw [HB.out]
    exact ⟨rfl, hw2, ((Kx.ofBelow hb0 hle h.lt).trans hk1).trans hk2⟩
  · have i1 : ¬ (m.length : Int) ≤ 31 := by omega
    by_cases h2 : m.length ≤ 255
    · have i2 : (m.length : Int) ≤ 255 := by omega
      have HB : Hid (textO o m = putO (putO o (0xd9 :: bigB m.length 1)) m) := by show _ = _; unfold textO; rw [if_neg h1, if_pos h2, putO_two]; rfl
      go_enter Tryz.func82, Tryz.ntmps82
      go_wp2_with fail
      refine (head_o (x := m.length) (n := 1) 0xd9 h (by rfl) (by first | rfl | (rw [IntKind.wrap_u64]; omega)) (by omega) (by decide) (by decide)).mono ?_
      rintro e w1 ⟨rfl, hw1, hk1⟩
      go_wp2_with fail
      refine (put_text hw1 hm).mono ?_
      rintro e w2 ⟨rfl, hw2, hk2⟩
      go_wp2
      go_end0
      rw [HB.out]
      exact ⟨rfl, hw2, hk1.trans hk2⟩
    · have i2 : ¬ (m.length : Int) ≤ 255 := by omega
      by_cases h3 : m.length ≤ 65535
      · have i3 : (m.length : Int) ≤ 65535 := by omega
        have HB : Hid (textO o m = putO (putO o (0xda :: bigB m.length 2)) m) := by show _ = _; unfold textO; rw [if_neg h1, if_neg h2, if_pos h3, putO_two]; rfl
        go_enter Tryz.func82, Tryz.ntmps82
        go_wp2_with fail
        refine (head_o (x := m.length) (n := 2) 0xda h (by rfl) (by first | rfl | (rw [IntKind.wrap_u64]; omega)) (by omega) (by decide) (by decide)).mono ?_
        rintro e w1 ⟨rfl, hw1, hk1⟩
        go_wp2_with fail
        refine (put_text hw1 hm).mono ?_
        rintro e w2 ⟨rfl, hw2, hk2⟩
        go_wp2
        go_end0
        rw [HB.out]
        exact ⟨rfl, hw2, hk1.trans hk2⟩
      · have i3 : ¬ (m.length : Int) ≤ 65535 := by omega
        have HB : Hid (textO o m = putO none m) := by show _ = _; unfold textO; rw [if_neg h1, if_neg h2, if_neg h3]; rfl
        have hf := h.fail
        have hk1 : Kx B g w (w.setCell ⟨g, 1, none⟩ (.bool true)) := h.setx _
        have hpt := put_text (m := m) hf hm
        generalize hW : w.setCell ⟨g, 1, none⟩ (.bool true) = w1 at *
        clear h1 h2 h3
        go_enter Tryz.func82, Tryz.ntmps82
        go_wp2_with fail
        refine hpt.mono ?_
        rintro e w2 ⟨rfl, hw2, hk2⟩
        go_wp2
        go_end0
        rw [HB.out]
        exact ⟨rfl, hw2, hk1.trans hk2⟩
end Go.Proofs.YtpchogicdnfggaaGreatDoor
set_option maxRecDepth 20000
namespace Go.Proofs.YtpchogicdnfggaaGreatDoor
open Go.RowKit Go.Hd

/-- The writer's state behind a value (fuel: its depth). -/
def encO : Nat → Option (List UInt8) → PV → Option (List UInt8)
  | 0, o, _ => o
  | d + 1, o, .mk k n b t ks l =>
    if k = 0 then putO o [0xc0] else if k = 1 then putO o [0xc2] else if k = 2 then putO o [0xc3] else if k = 3 then putO o (intB n) else
    if k = 4 then blobO o b else if k = 5 then textO o t else if k = 6 then l.foldl (encO d) (manyO 0x90 0xdc o l.length) else
    (ks.zip l).foldl (fun o x => encO d (textO o x.1) x.2) (manyO 0x80 0xde o l.length)
theorem blobO_none (m : List UInt8) : blobO none m = none := by
  unfold blobO; repeat' split
  all_goals rfl
theorem textO_none (m : List UInt8) : textO none m = none := by
  unfold textO; repeat' split
  all_goals rfl
theorem manyO_none (a b : UInt8) (n : Nat) : manyO a b none n = none := by
  unfold manyO; repeat' split
  all_goals rfl
theorem foldl_none {α : Type} (f : Option (List UInt8) → α → Option (List UInt8)) (hf : ∀ x, f none x = none) : ∀ l : List α, l.foldl f none = none
  | [] => rfl
  | x :: l => by rw [List.foldl_cons, hf]; exact foldl_none f hf l
/-- Who gave up lays nothing more. -/
theorem encO_none : ∀ (d : Nat) (v : PV), encO d none v = none
  | 0, _ => rfl
  | d + 1, .mk k n b t ks l => by
    unfold encO
    rw [blobO_none, textO_none, manyO_none, manyO_none, foldl_none _ (encO_none d), foldl_none _ (fun x => by rw [textO_none]; exact encO_none d x.2)]
    repeat' split
    all_goals rfl
/-- A value's bytes, or why it has none. -/
def encF (v : PV) : List UInt8 × Int := if canF 16 v = false then ([], 4) else match encO 16 (some []) v with | none => ([], 5) | some l => (l, 0)
end Go.Proofs.YtpchogicdnfggaaGreatDoor
set_option maxRecDepth 20000
namespace Go.Proofs.YtpchogicdnfggaaGreatDoor
open Go.RowKit Go.Hd
attribute [local go_sem ↓] h_ldV h_stV h_alV
attribute [local go_sem] r_ldV r_stV r_alV

theorem WrO.test {B g : Nat} {w : World} {o : Option (List UInt8)} (h : WrO B w g o) : ∃ full, w.cell? ⟨g, 1, none⟩ = some (.bool full) ∧ (full = true → o = none) := by
  obtain ⟨s, ⟨v, hB, _⟩, rfl⟩ := h
  exact ⟨s.2, hB.blk.cell rfl, fun h => by unfold absW; rw [if_pos h]⟩
theorem put_one {B g : Nat} {w : World} {o : Option (List UInt8)} (c : UInt8) (h : WrO B w g o) :
    Calls Tryz.prog 79 #[.pointer (some ⟨g, 0, none⟩), .slice (some ⟨w.heap.size, 0, none⟩) 1 1] (w.alloc (.cells #[b8 c] 5)) fun e w' => e = .returned (.tuple #[]) ∧ WrO B w' g (putO o [c]) ∧ Kx B g w w' := by
  have hb0 : Below w.heap.size w (w.alloc (.cells #[b8 c] 5)) := (Below.refl _ _).alloc (Nat.le_refl _) _
  have hrow : Row (w.alloc (.cells #[b8 c] 5)) (some ⟨w.heap.size, 0, none⟩) ([c].map b8) := (Blk.new w 5 #[b8 c]).row
  refine (put_o (m := [c]) (h.keep hb0) (by rfl) (Nat.le_refl _) hrow).mono ?_
  rintro e w1 ⟨rfl, hw1, hk1⟩
  exact ⟨rfl, hw1, (Kx.ofBelow hb0 h.le h.lt).trans hk1⟩

theorem WrO.fresh {B g q : Nat} {w : World} {o : Option (List UInt8)} (h : WrO B w g o) (hq : w.heap.size ≤ q) : ownOf w g ≠ some q := by
  obtain ⟨s, ⟨v, hB, _⟩, _⟩ := h
  rw [Blk.ownOf hB.blk]
  intro e
  have := (hB.own.lt q e).2
  omega
theorem Kx.blk {B g q : Nat} {w w' : World} {T : TypeId} {xs : List Value} (h : Kx B g w w') (hb : Blk w q T xs) (hq : q ≠ g) (ho : ownOf w g ≠ some q) : Blk w' q T xs ∧ ownOf w' g ≠ some q := by
  obtain ⟨h1, h2⟩ := h.far q hb.lt hq ho
  exact ⟨by unfold Blk at *; rw [h1]; exact hb, h2⟩
theorem canF_list {d : Nat} {k n : Int} {b t : List UInt8} {ks : List (List UInt8)} {l : List PV} (h : canF (d + 1) (.mk k n b t ks l) = true) : 0 ≤ k ∧ k ≤ 7 ∧ (6 ≤ k → ∀ v ∈ l, canF d v = true) ∧ (k = 7 → ks.length = l.length ∧ risesT ks = true) := by
  have h2 : (decide (0 ≤ k ∧ k ≤ 7) && (k != 7 || (ks.length == l.length && risesT ks)) && (decide (k < 6) || l.all (canF d))) = true := h
  simp only [Bool.and_eq_true, decide_eq_true_eq, Bool.or_eq_true, bne_iff_ne, beq_iff_eq, List.all_eq_true] at h2
  obtain ⟨⟨⟨h0, h7⟩, hm⟩, hl⟩ := h2
  refine ⟨h0, h7, fun h6 => ?_, fun hk => ?_⟩
  · rcases hl with h | h
    · omega
    · exact h
  · rcases hm with h | h
    · exact absurd hk h
    · exact h

set_option maxHeartbeats 2000000 in
theorem value_any {w0 : World} {cs : List Value} {v : PV} (h : VAt w0 cs v) : ∀ (d B g : Nat) (w : World) (o : Option (List UInt8)), canF d v = true → Below w0.heap.size w0 w → w0.heap.size ≤ g → WrO B w g o →
    Calls Tryz.prog 53 #[.pointer (some ⟨g, 0, none⟩), .agg cs.toArray] w fun e w' => e = .returned (.tuple #[]) ∧ WrO B w' g (encO d o v) ∧ Kx B g w w' := by
  induction h with
  | @mk k n b t ks l ab ak al cb ck cl css hk hn hb hbc ht hks hkc hkt hl hlc hcs h6 sub ih =>
  intro d B g w o hcan hbw hg hw
  cases d with
  | zero => cases hcan
  | succ d =>
  have hwle := hw.le
  have hgB := hw.lt
  have hb0 : Below w.heap.size w (w.alloc (.cells (List.toArray (α := Value) [.int .i64 k, .int .i64 n, .slice ab b.length cb, .string (str t), .slice ak ks.length ck, .slice al l.length cl]) 50)) := (Below.refl _ _).alloc (Nat.le_refl _) _
  have B0 : Blk (w.alloc (.cells (List.toArray (α := Value) [.int .i64 k, .int .i64 n, .slice ab b.length cb, .string (str t), .slice ak ks.length ck, .slice al l.length cl]) 50)) w.heap.size 50 [.int .i64 k, .int .i64 n, .slice ab b.length cb, .string (str t), .slice ak ks.length ck, .slice al l.length cl] := Blk.new _ _ _
  have hw0 := hw.keep hb0
  have hbW : Below w0.heap.size w0 (w.alloc (.cells (List.toArray (α := Value) [.int .i64 k, .int .i64 n, .slice ab b.length cb, .string (str t), .slice ak ks.length ck, .slice al l.length cl]) 50)) := hbw.trans (hb0.mono hbw.size)
  have hkW : Kx B g w (w.alloc (.cells (List.toArray (α := Value) [.int .i64 k, .int .i64 n, .slice ab b.length cb, .string (str t), .slice ak ks.length ck, .slice al l.length cl]) 50)) := Kx.ofBelow hb0 hwle hw.lt
  show Calls _ _ #[_, .agg (List.toArray (α := Value) [.int .i64 k, .int .i64 n, .slice ab b.length cb, .string (str t), .slice ak ks.length ck, .slice al l.length cl])] _ _
  obtain ⟨full, c1, hfull⟩ := hw0.test
  go_enter Tryz.func53, Tryz.ntmps53
  go_upto_region 1 with (fail)
  generalize w.alloc (.cells (List.toArray (α := Value) [.int .i64 k, .int .i64 n, .slice ab b.length cb, .string (str t), .slice ak ks.length ck, .slice al l.length cl]) 50) = W at *
  have k0 : W.cell? ⟨w.heap.size, 0, none⟩ = some (.int .i64 k) := B0.cell rfl
  have k1 : W.cell? ⟨w.heap.size, 1, none⟩ = some (.int .i64 n) := B0.cell rfl
  have k2 : W.cell? ⟨w.heap.size, 2, none⟩ = some (.slice ab b.length cb) := B0.cell rfl
  have k3 : W.cell? ⟨w.heap.size, 3, none⟩ = some (.string (str t)) := B0.cell rfl
  cases full with
  | true =>
    obtain rfl := hfull rfl
    have HE := Lib.hid (encO_none (d + 1) (.mk k n b t ks l))
    go_wp2
    refine bodyPost_ret (results_none (by rfl) _ _ _) rfl ?_
    rw [HE.out]
    exact ⟨rfl, hw0, hkW⟩
  | false =>
  by_cases e0 : k = 0
  · subst e0
    have HE : Hid (encO (d + 1) o (.mk 0 n b t ks l) = putO o [0xc0]) := rfl
    go_wp2_with fail
    refine (put_one 0xc0 hw0).mono ?_
    rintro e w1 ⟨rfl, hw1, hk1⟩
    go_wp2
    go_end0
    rw [HE.out]
    exact ⟨rfl, hw1, hkW.trans hk1⟩
  have t0 : (k == 0) = false := beq_eq_false_iff_ne.2 e0
  by_cases e1 : k = 1
  · subst e1
    have HE : Hid (encO (d + 1) o (.mk 1 n b t ks l) = putO o [0xc2]) := rfl
    go_wp2_with fail
    refine (put_one 0xc2 hw0).mono ?_
    rintro e w1 ⟨rfl, hw1, hk1⟩
    go_wp2
    go_end0
    rw [HE.out]
    exact ⟨rfl, hw1, hkW.trans hk1⟩
  have t1 : (k == 1) = false := beq_eq_false_iff_ne.2 e1
  by_cases e2 : k = 2
  · subst e2
    have HE : Hid (encO (d + 1) o (.mk 2 n b t ks l) = putO o [0xc3]) := rfl
    go_wp2_with fail
    refine (put_one 0xc3 hw0).mono ?_
    rintro e w1 ⟨rfl, hw1, hk1⟩
    go_wp2
    go_end0
    rw [HE.out]
    exact ⟨rfl, hw1, hkW.trans hk1⟩
  have t2 : (k == 2) = false := beq_eq_false_iff_ne.2 e2
  by_cases e3 : k = 3
  · subst e3
    have HE : Hid (encO (d + 1) o (.mk 3 n b t ks l) = putO o (intB n)) := rfl
    go_wp2_with fail
    refine (number_any hw0 hn).mono ?_
    rintro e w1 ⟨rfl, hw1, hk1⟩
    go_wp2
    go_end0
    rw [HE.out]
    exact ⟨rfl, hw1, hkW.trans hk1⟩
  have t3 : (k == 3) = false := beq_eq_false_iff_ne.2 e3
  by_cases e4 : k = 4
  · subst e4
    have HE : Hid (encO (d + 1) o (.mk 4 n b t ks l) = blobO o b) := rfl
    go_wp2_with fail
    refine (blob_any hw0 rfl hbc.1 hb hbW hg).mono ?_
    rintro e w1 ⟨rfl, hw1, hk1⟩
    go_wp2
    go_end0
    rw [HE.out]
    exact ⟨rfl, hw1, hkW.trans hk1⟩
  have t4 : (k == 4) = false := beq_eq_false_iff_ne.2 e4
  by_cases e5 : k = 5
  · subst e5
    have HE : Hid (encO (d + 1) o (.mk 5 n b t ks l) = textO o t) := rfl
    go_wp2_with fail
    refine (text_o hw0 ht).mono ?_
    rintro e w1 ⟨rfl, hw1, hk1⟩
    go_wp2
    go_end0
    rw [HE.out]
    exact ⟨rfl, hw1, hkW.trans hk1⟩
  have t5 : (k == 5) = false := beq_eq_false_iff_ne.2 e5
  obtain ⟨k0', k7', hall, hmap⟩ := canF_list hcan
  have hel := hall (by omega)
  clear hall
  have hqg : w.heap.size ≠ g := by omega
  have hfr : ownOf W g ≠ some w.heap.size := by rw [ownOf_below hb0 (by omega)]; exact hw.fresh (Nat.le_refl _)
  have k5 : W.cell? ⟨w.heap.size, 5, none⟩ = some (.slice al l.length cl) := B0.cell rfl
  by_cases e6 : k = 6
  · subst e6
    have HE : Hid (encO (d + 1) o (.mk 6 n b t ks l) = l.foldl (encO d) (manyO 0x90 0xdc o l.length)) := rfl
    clear hmap
    go_wp2_with fail
    refine (many_any 0x90 0xdc (.inl rfl) hw0 (by omega)).mono ?_
    rintro e w1 ⟨rfl, hw1, hk1⟩
    obtain ⟨B1, hfr1⟩ := hk1.blk B0 hqg hfr
    have k5 : w1.cell? ⟨w.heap.size, 5, none⟩ = some (.slice al l.length cl) := B1.cell rfl
    have hkx := hkW.trans hk1
    generalize manyO 0x90 0xdc o l.length = O1 at *
    go_wp2_with fail
    go_loopw [57] (fun i wr => ∃ j : Nat, j ≤ l.length ∧ i = .int .i64 j ∧ WrO B wr g ((l.take j).foldl (encO d) O1) ∧ Kx B g w wr) (fun i _ => l.length - (intOf i).toNat)
    case atStart => exact ⟨0, Nat.zero_le _, rfl, by rw [List.take_zero]; exact hw1, hkx⟩
    case round =>
      obtain ⟨j, hj, rfl, hwr, hkr⟩ := hrel
      by_cases hlt : j < l.length
      · have hcj : css[j]? = some (css[j]'(by omega)) := by simp
        have hvj : l[j]? = some l[j] := by simp [hlt]
        have hbr := hbw.trans (Kp.past hkr.kp hg hgB)
        have IH := fun w' o' (h1 : Below w0.heap.size w0 w') (h2 : WrO B w' g o') => ih j _ _ hcj hvj d B g w' o' (hel _ (List.getElem_mem hlt)) h1 hg h2
        have hrow := hl.below hbr
        have s1 := hrow.elemSome (s := 6) h6 (by decide) (i := j) (by omega)
        have q1 := ldOp_at (P := Tryz.prog) (ty := 50) (hrow.elem (s := 6) h6 hcj) Tryz.underlying50 rfl (by rw [h6 _ (List.getElem_mem _)]; exact sizeV)
        have x6 : (css[j]'(by omega)).toArray.size = 6 := by simpa using h6 _ (List.getElem_mem _)
        have xo : OneC (css[j]'(by omega)).toArray := all_oneCell_toArray (sub j _ _ hcj hvj).one
        have HA : Hid ((l.take (j + 1)).foldl (encO d) O1 = encO d ((l.take j).foldl (encO d) O1) l[j]) := by
          show _ = _
          rw [List.take_succ_eq_append_getElem hlt, List.foldl_append]; rfl
        have zs := zV_size
        have hwrl := hwr.le
        have hgl := hwr.lt
        have j0 : (0 : Int) ≤ (j : Int) := by omega
        have j1 : (j : Int) < (l.length : Int) := by omega
        have jb : (j : Int) + 1 ≤ 9223372036854775807 := by unfold maxLen at hlc; omega
        have ew2 : IntKind.i64.wrap ((j : Int) + 1) = (j : Int) + 1 := IntWalk.i64_in _ (by omega)
        have hb5 : Below wr.heap.size wr (wr.alloc (.cells (css[j]'(by omega)).toArray 50)) := (Below.refl _ _).alloc (Nat.le_refl _) _
        have hw5 := hwr.keep hb5
        have hbr5 := hbr.trans (hb5.mono hbr.size)
        have hk5 : Kx B g w (wr.alloc (.cells (css[j]'(by omega)).toArray 50)) := hkr.trans (Kx.ofBelow hb5 hwrl hgl)
        generalize css[j]'(by omega) = c at *
        generalize l[j] = v at *
        generalize (l.take j).foldl (encO d) O1 = O2 at *
        clear hcj hvj hrow B0 B1 hwr hkr hb5
        go_wp2_with fail
        refine (IH _ _ hbr5 hw5).mono ?_
        rintro e w5 ⟨rfl, hw6, hk6⟩
        have HW : Hid (WrO B w5 g ((l.take (j + 1)).foldl (encO d) O1)) := by show WrO _ _ _ _; rw [HA.out]; exact hw6
        have hk7 := hk5.trans hk6
        go_wp2
        first
          | exact ⟨⟨j + 1, by omega, (by first | rfl | go_num | (congr 1; omega)), HW.out, hk7⟩, by simp [intOf] <;> omega⟩
          | (refine ⟨?_, by simp [intOf] <;> omega⟩; (repeat apply Exists.intro); exact ⟨⟨j + 1, by omega, (by first | rfl | go_num | (congr 1; omega)), HW.out, hk7⟩, rfl⟩)
      · obtain rfl : j = l.length := by omega
        rw [List.take_length] at hwr
        go_wp2
        go_end0
        rw [HE.out]
        exact ⟨rfl, hwr, hkr⟩
  · obtain rfl : k = 7 := by omega
    obtain ⟨hkl, hris⟩ := hmap rfl
    have HE : Hid (encO (d + 1) o (.mk 7 n b t ks l) = (ks.zip l).foldl (fun o x => encO d (textO o x.1) x.2) (manyO 0x80 0xde o l.length)) := rfl
    have t6 : ((7 : Int) == 6) = false := rfl
    clear hris
    go_wp2_with fail
    refine (many_any 0x80 0xde (.inr rfl) hw0 (by omega)).mono ?_
    rintro e w1 ⟨rfl, hw1, hk1⟩
    obtain ⟨B1, hfr1⟩ := hk1.blk B0 hqg hfr
    have k5 : w1.cell? ⟨w.heap.size, 5, none⟩ = some (.slice al l.length cl) := B1.cell rfl
    have hkx := hkW.trans hk1
    have HKL := Lib.hid hkl
    generalize manyO 0x80 0xde o l.length = O1 at *
    go_wp2_with fail
    go_loopw [75] (fun i wr => ∃ j : Nat, j ≤ l.length ∧ i = .int .i64 j ∧ WrO B wr g (((ks.zip l).take j).foldl (fun o x => encO d (textO o x.1) x.2) O1) ∧ Kx B g w wr ∧ Blk wr w.heap.size 50 [.int .i64 7, .int .i64 n, .slice ab b.length cb, .string (str t), .slice ak ks.length ck, .slice al l.length cl] ∧ ownOf wr g ≠ some w.heap.size) (fun i _ => l.length - (intOf i).toNat)
    case atStart => exact ⟨0, Nat.zero_le _, rfl, by rw [List.take_zero]; exact hw1, hkx, B1, hfr1⟩
    case round =>
      obtain ⟨j, hj, rfl, hwr, hkr, BK, hfrr⟩ := hrel
      have hkl := HKL.out
      by_cases hlt : j < l.length
      · have hcj : css[j]? = some (css[j]'(by omega)) := by simp
        have hvj : l[j]? = some l[j] := by simp [hlt]
        have hbr := hbw.trans (Kp.past hkr.kp hg hgB)
        have IH := fun w' o' (h1 : Below w0.heap.size w0 w') (h2 : WrO B w' g o') => ih j _ _ hcj hvj d B g w' o' (hel _ (List.getElem_mem hlt)) h1 hg h2
        have hrow := hl.below hbr
        have s1 := hrow.elemSome (s := 6) h6 (by decide) (i := j) (by omega)
        have q1 := ldOp_at (P := Tryz.prog) (ty := 50) (hrow.elem (s := 6) h6 hcj) Tryz.underlying50 rfl (by rw [h6 _ (List.getElem_mem _)]; exact sizeV)
        have x6 : (css[j]'(by omega)).toArray.size = 6 := by simpa using h6 _ (List.getElem_mem _)
        have xo : OneC (css[j]'(by omega)).toArray := all_oneCell_toArray (sub j _ _ hcj hvj).one
        have HA : Hid (((ks.zip l).take (j + 1)).foldl (fun o x => encO d (textO o x.1) x.2) O1 = encO d (textO (((ks.zip l).take j).foldl (fun o x => encO d (textO o x.1) x.2) O1) (ks[j]'(by omega))) l[j]) := by
          show _ = _
          rw [List.take_succ_eq_append_getElem (by rw [List.length_zip]; omega), List.foldl_append]
          simp
        have zs := zV_size
        have hwrl := hwr.le
        have hgl := hwr.lt
        have hjk : j < ks.length := by omega
        have hrowk := hks.below hbr
        have p1 : wr.cell? ((hd ak).add j) = some (strV (ks[j]'hjk)) := hrowk.cell (by simp [hjk])
        have s2 : ak.isSome = true := hrowk.isSome (i := j) (by simpa using hjk)
        have htl : (ks[j]'hjk).length ≤ maxLen := hkt _ (List.getElem_mem _)
        unfold strV at p1
        have j0 : (0 : Int) ≤ (j : Int) := by omega
        have j1 : (j : Int) < (l.length : Int) := by omega
        have j2 : (j : Int) < (ks.length : Int) := by omega
        have jb : (j : Int) + 1 ≤ 9223372036854775807 := by unfold maxLen at hlc; omega
        have ew2 : IntKind.i64.wrap ((j : Int) + 1) = (j : Int) + 1 := IntWalk.i64_in _ (by omega)
        have hb5 : Below wr.heap.size wr (wr.alloc (.cells (css[j]'(by omega)).toArray 50)) := (Below.refl _ _).alloc (Nat.le_refl _) _
        have BX : Blk (wr.alloc (.cells (css[j]'(by omega)).toArray 50)) wr.heap.size 50 (css[j]'(by omega)).toArray.toList := Blk.new _ _ _
        have BK5 := BK.below hb5
        have hw5 := hwr.keep hb5
        have hbr5 := hbr.trans (hb5.mono hbr.size)
        have hxg : wr.heap.size ≠ g := by omega
        have hfx : ownOf (wr.alloc (.cells (css[j]'(by omega)).toArray 50)) g ≠ some wr.heap.size := by rw [ownOf_below hb5 (by omega)]; exact hwr.fresh (Nat.le_refl _)
        have hfq : ownOf (wr.alloc (.cells (css[j]'(by omega)).toArray 50)) g ≠ some w.heap.size := by rw [ownOf_below hb5 (by omega)]; exact hfrr
        have hk5 : Kx B g w (wr.alloc (.cells (css[j]'(by omega)).toArray 50)) := hkr.trans (Kx.ofBelow hb5 hwrl hgl)
        have p1' : (wr.alloc (.cells (css[j]'(by omega)).toArray 50)).cell? ((hd ak).add j) = some (.string (str (ks[j]'hjk))) := by
          rw [hb5.cell (World.block_lt_of_cell? wr _ p1)]; exact p1
        have k4 : (wr.alloc (.cells (css[j]'(by omega)).toArray 50)).cell? ⟨w.heap.size, 4, none⟩ = some (.slice ak ks.length ck) := BK5.cell rfl
        generalize css[j]'(by omega) = c at *
        generalize l[j] = v at *
        generalize ks[j]'hjk = key at *
        generalize ((ks.zip l).take j).foldl (fun o x => encO d (textO o x.1) x.2) O1 = O2 at *
        have HH := Lib.hid hkl
        clear hcj hvj hrow B0 B1 hwr hkr hb5 hkl hjk
        go_wp2_with fail
        refine (text_o hw5 htl).mono ?_
        rintro e w5 ⟨rfl, hw6, hk6⟩
        obtain ⟨BX6, hfx6⟩ := hk6.blk BX hxg hfx
        obtain ⟨BK6, hfq6⟩ := hk6.blk BK5 hqg hfq
        have q2 : (ldOp 50 (.pointer (some ⟨wr.heap.size, 0, none⟩))).run Tryz.prog w5 = .ok (.agg c.toArray) w5 := by
          have := ldOp_all (P := Tryz.prog) (ty := 50) BX6 Tryz.underlying50 rfl (by rw [Array.length_toList, x6]; exact sizeV)
          simpa using this
        have hbr6 := hbw.trans (Kp.past (hk5.trans hk6).kp hg hgB)
        go_wp2_with fail
        refine (IH _ _ hbr6 hw6).mono ?_
        rintro e w6 ⟨rfl, hw7, hk7⟩
        obtain ⟨BK7, hfq7⟩ := hk7.blk BK6 hqg hfq6
        have HW : Hid (WrO B w6 g (((ks.zip l).take (j + 1)).foldl (fun o x => encO d (textO o x.1) x.2) O1)) := by show WrO _ _ _ _; rw [HA.out]; exact hw7
        have hk8 := (hk5.trans hk6).trans hk7
        go_wp2
        first
          | exact ⟨⟨j + 1, by omega, (by first | rfl | go_num | (congr 1; omega)), HW.out, hk8, BK7, hfq7⟩, by simp [intOf] <;> omega⟩
          | (refine ⟨?_, by simp [intOf] <;> omega⟩; (repeat apply Exists.intro); exact ⟨⟨j + 1, by omega, (by first | rfl | go_num | (congr 1; omega)), HW.out, hk8, BK7, hfq7⟩, rfl⟩)
      · obtain rfl : j = l.length := by omega
        rw [List.take_of_length_le (by rw [List.length_zip]; omega)] at hwr
        go_wp2
        go_end0
        rw [HE.out]
        exact ⟨rfl, hwr, hkr⟩
end Go.Proofs.YtpchogicdnfggaaGreatDoor
set_option maxRecDepth 20000
namespace Go.Proofs.YtpchogicdnfggaaGreatDoor
open Go.RowKit Go.Hd
attribute [local go_sem ↓] h_ldV h_stV h_alV
attribute [local go_sem] r_ldV r_stV r_alV

theorem WrO.new (w : World) : WrO (w.heap.size + 1) (w.alloc (.cells #[.slice none 0 0, .bool false] 107)) w.heap.size (some []) :=
  ⟨([], false), ⟨.slice none 0 0, ⟨Blk.new _ _ _, World.ownsRow_nil _ _ _ _, Nat.lt_succ_self _, by simp⟩, by decide⟩, rfl⟩
theorem WrO.none' {B g : Nat} {w : World} (h : WrO B w g none) : w.cell? ⟨g, 1, none⟩ = Option.some (.bool true) := by
  obtain ⟨⟨l', f⟩, ⟨v, hB, _⟩, ha⟩ := h
  cases f with
  | false => cases ha
  | true => exact hB.blk.cell rfl
end Go.Proofs.YtpchogicdnfggaaGreatDoor
set_option maxRecDepth 20000
namespace Go.Proofs.YtpchogicdnfggaaGreatDoor
open Go.RowKit Go.Hd
attribute [local go_sem ↓] h_ldV h_stV h_alV
attribute [local go_sem] r_ldV r_stV r_alV

/-- What the document's bytes answers. -/
structure RbR (base : Nat) (w w' : World) (v u : Value) (r : Bool) (o : Option (List UInt8)) : Prop where
  own : ∃ l', Own 5 w' base u l' ∧ (r = true → o = some l' ∧ l'.length ≤ 65536)
  no : r = false → o = none
  gro : Gro w w' v u
theorem putO_some (l m : List UInt8) : putO (some l) m = if 65536 < l.length + m.length then none else some (l ++ m) := rfl
theorem or_ofNat (a : UInt8) (m : Nat) (n : Nat) (h : ∀ k : Fin (m + 1), (a ||| UInt8.ofNat k.val) = UInt8.ofNat (a.toNat + k.val)) (hn : n ≤ m) : (a ||| UInt8.ofNat n) = UInt8.ofNat (a.toNat + n) := h ⟨n, by omega⟩
end Go.Proofs.YtpchogicdnfggaaGreatDoor
set_option maxRecDepth 20000
namespace Go.Proofs.YtpchogicdnfggaaGreatDoor
open Go.RowKit Go.Hd
attribute [local go_sem ↓] h_ldV h_stV h_alV
attribute [local go_sem] r_ldV r_stV r_alV

theorem putO_len {l m x : List UInt8} (h : putO (some l) m = some x) : x = l ++ m ∧ x.length ≤ 65536 := by
  rw [putO_some] at h
  split at h
  · cases h
  · cases h; exact ⟨rfl, by simp; omega⟩
end Go.Proofs.YtpchogicdnfggaaGreatDoor
set_option maxRecDepth 20000
namespace Go.Proofs.YtpchogicdnfggaaGreatDoor
open Go.RowKit Go.Hd
attribute [local go_sem ↓] h_ldV h_stV h_alV
attribute [local go_sem] r_ldV r_stV r_alV

/-- The state of the document's loop. -/
structure RbL (base q : Nat) (w wr : World) (v0 u : Value) (box : List Value) (l3 : List UInt8) : Prop where
  own : Own 5 wr base u l3
  small : l3.length ≤ 65536
  gro : Gro w wr v0 u
  blk : Blk wr q 50 box
  far : u.ownBlock ≠ some q
end Go.Proofs.YtpchogicdnfggaaGreatDoor
