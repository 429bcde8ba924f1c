/- The walk of BitsPieces: pieces of any sizes, read one behind the other, are the bytes. -/
import Derived.Test.YtchpnhlblhklcaaW8
namespace Go.Proofs.Ytchpnhlblhklcaa
open Go.ChangeShapes Go.WideShapes Go.ChangeAt Go.RowKit Go.Hd

/-- What holds at the head of a round: all holds what was read so far. -/
def PRel (w : World) (B g : Nat) (l : List UInt8) (m : Nat) (i all : Value) (wr : World) : Prop :=
  ∃ k p : Nat, k ≤ m ∧ k ≤ 100 ∧ p ≤ l.length ∧ i = .int .i64 k ∧ wr.ownsRow B 5 1 all p ((l.take p).map b8) ∧ RdAt B wr g (l.drop p) 0 ∧ Below w.heap.size w wr ∧ B ≤ wr.heap.size

/-- What was read is laid behind the rest. -/
theorem pieces_step {w wr w3 : World} {B g : Nat} {l r : List UInt8} {p q : Nat} {all vb : Value} (hw : w.heap.size ≤ B) (hgw : w.heap.size ≤ g) (hgB : g < B) (hBr : B ≤ wr.heap.size) (hp : p ≤ l.length)
    (hown : wr.ownsRow B 5 1 all p ((l.take p).map b8)) (hr : r = l.drop p) (hl : l.length ≤ 300) (hbk : Below w.heap.size w wr) (hg3 : wr.grownBy w3 (some g))
    (hob : w3.ownsRow wr.heap.size 5 1 vb (rdGot r 0 q).length ((rdGot r 0 q).map b8)) (hrd : RdAt B w3 g (rdRest r 0 q) (rdErr r 0 q)) (hq : q ≤ r.length) :
    ∃ v' w', (Builtin.append_ #[23, 23] 23 #[all, vb]).run Try.prog w3 = .ok v' w' ∧ w'.ownsRow B 5 1 v' (p + q) ((l.take (p + q)).map b8) ∧ RdAt B w' g (l.drop (p + q)) 0 ∧ Below w.heap.size w w' ∧ B ≤ w'.heap.size ∧ Below w.heap.size w w3 := by
  have e1 : rdGot r 0 q = r.take q := by simp [rdGot]; omega
  have e2 : rdRest r 0 q = r.drop q := by simp [rdRest]; omega
  have e3 : rdErr r 0 q = 0 := by simp [rdErr]; omega
  rw [e1] at hob
  rw [e2, e3] at hrd
  have hrl : r.length = l.length - p := by rw [hr, List.length_drop]
  have hql : (r.take q).length = q := by rw [List.length_take]; omega
  rw [hql] at hob
  have hb3 : Below w.heap.size w w3 := Gr.ofGrown hbk hg3 hgw
  have hno : ∀ k, all.ownBlock = some k → B ≤ k ∧ k ≠ g := fun k hk => by have := (hown.lt k hk).1; exact ⟨this, by omega⟩
  have hown3 : w3.ownsRow B 5 1 all p ((l.take p).map b8) := hown.kept hg3 (.inr (fun e => (hno g e).2 rfl))
  obtain ⟨a, c, rfl, hc, hcm, hrow⟩ := owns_row hob
  have hsrc : Src Try.prog 1 23 (.slice a q c) q ((r.take q).map b8) w3 := Src.ofRow eB.ht _ _ _ _ (by decide) (by rw [List.length_map, hql, Nat.mul_one]) hrow (bytes_one _)
  obtain ⟨v', w', h1, h2, h3⟩ := append_src (ty := 23) eB hown3 hsrc (by unfold maxLen; omega) (by omega) (Nat.le_trans hBr hg3.size)
  refine ⟨v', w', h1, ?_, ?_, Gr.ofOwn hb3 h3 (fun k hk => Nat.le_trans hw (hno k hk).1), Nat.le_trans (Nat.le_trans hBr hg3.size) h3.size, hb3⟩
  · rw [← List.map_append, hr] at h2
    rw [List.take_add]; exact h2
  · have := hrd.keptOwn h3 hno
    rw [hr, List.drop_drop] at this
    exact this

set_option maxHeartbeats 1000000 in
theorem pieces_law (a : Option Addr) (n c : Nat) (l0 : List UInt8) (a1 : Option Addr) (m c1 : Nat) (zs : List Int) (w : World) (hn : n = l0.length) (hc : n ≤ c) (hl0 : Row w a (l0.map b8))
    (hm : m = zs.length) (hmc : m ≤ maxLen) (hz : Row w a1 (zs.map (Value.int .i64))) :
    Calls Try.prog 8 #[.slice a n c, .slice a1 m c1] w fun e w' => e = .returned (.bool true) ∧ Below w.heap.size w w' := by
  subst hn
  unfold maxLen at hmc
  have hl : Row w a ((l0.take 300).map b8) := by rw [List.map_take]; exact hl0.take 300
  have hk : (l0.take 300).length ≤ 300 := List.length_take_le _ _
  have hml : min l0.length 300 = (l0.take 300).length := by simp; omega
  generalize l0.take 300 = l at *
  go_enter Try.func8, Try.ntmps8
  go_wp2_with fail
  refine (cut_any a _ c 300 w (by decide) hc).mono ?_
  rintro e w1 ⟨rfl, rfl⟩
  go_wp2_with fail
  refine (open_any (by first | rfl | exact hml) hl (by omega)).mono ?_
  rintro e w1 ⟨g, rfl, hgw, hrd, hb⟩
  have hgB : g < w1.heap.size := hrd.lt
  have hwB : w.heap.size ≤ w1.heap.size := hb.size
  go_wp2
  go_loopw [6, 7] (fun all i wr => PRel w w1.heap.size g l m i all wr) (fun _ i _ => 100 - (intOf i).toNat)
  case atStart => exact ⟨0, 0, Nat.zero_le _, Nat.zero_le _, Nat.zero_le _, rfl, World.ownsRow_nil _ _ _ _, by simpa using hrd, hb, Nat.le_refl _⟩
  case round =>
    obtain ⟨k, p, hkm, hk100, hp, rfl, hown, hrdk, hbk, hBr⟩ := hrel
    obtain ⟨r, hr⟩ : ∃ r, r = l.drop p := ⟨_, rfl⟩
    have hrl : r.length = l.length - p := by rw [hr, List.length_drop]
    have hr300 : r.length ≤ 300 := by omega
    have hrdD : RdAt w1.heap.size wr.drew g r 0 := hr ▸ hrdk
    have STEP : ∀ (q : Nat) (vb : Value) (w3 : World), wr.grownBy w3 (some g) → w3.ownsRow wr.heap.size 5 1 vb (rdGot r 0 q).length ((rdGot r 0 q).map b8) → RdAt w1.heap.size w3 g (rdRest r 0 q) (rdErr r 0 q) → q ≤ r.length →
        ∃ v' w', (Builtin.append_ #[23, 23] 23 #[_, vb]).run Try.prog w3 = .ok v' w' ∧ w'.ownsRow w1.heap.size 5 1 v' (p + q) ((l.take (p + q)).map b8) ∧ RdAt w1.heap.size w' g (l.drop (p + q)) 0 ∧ Below w.heap.size w w' ∧ w1.heap.size ≤ w'.heap.size ∧ Below w.heap.size w w3 :=
      fun q vb w3 k1 k2 k3 k4 => pieces_step (wr := wr) hwB hgw hgB hBr hp hown hr hk hbk k1 k2 k3 k4
    have HS : Hid _ := STEP
    have HR := Lib.hid hr
    have HRL := Lib.hid hrl
    clear hr hrl hrdk hrd hown STEP
    by_cases hlt : k < m ∧ k < 100
    · obtain ⟨hlt1, hlt2⟩ := hlt
      have hzk : k < zs.length := by omega
      have cz0 := hz.below hbk
      have cz : wr.cell? ((hd a1).add k) = some (.int .i64 zs[k]) := cz0.cell (by simp [hzk])
      have sz : a1.isSome = true := hz.1 (by simp; omega)
      have hkI : (k : Int) < m := by omega
      have hkI2 : (k : Int) < 100 := by omega
      have hqr := (wN_bd zs[k] 0 r.length (Nat.zero_le _)).2
      clear hb hl hl0 hml hlt1 hlt2 cz0
      go_wp2
      go_region_held3 (fun w' => w'.cell? ((hd a1).add k) = some (.int .i64 zs[k])) (first | go_keep | assumption) (first
        | (go_at_call 30; refine (left_any hrdD).mono ?_; rintro e3 w3 ⟨rfl, rfl⟩)
        | (go_at_call 27; refine (within_nat 0 r.length (by rfl) (by rfl)).mono ?_; rintro e3 w3 ⟨rfl, rfl⟩)
        | (go_at_call 29; refine (bytes_any hrdD (by omega)).mono ?_; rintro e3 w3 ⟨vb, rfl, hob, hrd3, hg3⟩; obtain ⟨v', w', hrun, hown', hrd', hb', hB', hb3⟩ := HS.out _ vb w3 (grownBy_undrew (n := 1) hg3) hob hrd3 hqr; have cz3 : w3.cell? ((hd a1).add k) = some (.int .i64 zs[k]) := (hz.below hb3).cell (by simp [hzk]); have cz4 : w'.cell? ((hd a1).add k) = some (.int .i64 zs[k]) := (hz.below hb').cell (by simp [hzk]))
        | (refine step_append_run hrun rfl rfl rfl rfl ?_))
      go_wp2
      first
        | exact ⟨⟨k + 1, p + _, by omega, by omega, by have := HRL.out; omega, by first | rfl | go_num | (congr 1; omega), hown', hrd', hb', hB'⟩, by simp [intOf] <;> omega⟩
        | (refine ⟨?_, by simp [intOf] <;> omega⟩; (repeat apply Exists.intro); exact ⟨⟨k + 1, p + _, by omega, by omega, by have := HRL.out; omega, by first | rfl | go_num | (congr 1; omega), hown', hrd', hb', hB'⟩, rfl⟩)
    · have hrdW : RdAt w1.heap.size wr g r 0 := hrdD
      clear hz hb hl0 hml hrdD
      rcases Nat.lt_or_ge k m with h1 | h1
      · have h2 : ¬ (k : Int) < 100 := by omega
        have h1' : (k : Int) < m := by omega
        go_wp2_with fail
        refine (left_any hrdW).mono ?_
        rintro e w2 ⟨rfl, rfl⟩
        go_wp2_with fail
        refine (bytes_any hrdW (by omega)).mono ?_
        rintro e w3 ⟨vb, rfl, hob, hrd3, hg3⟩
        obtain ⟨v', w', hrun, hown', hrd', hb', hB', hb3⟩ := HS.out _ vb w3 hg3 hob hrd3 (Nat.le_refl _)
        have hpl : p + r.length = l.length := by have := HRL.out; omega
        rw [hpl, List.drop_length] at hrd'
        rw [hpl, List.take_length] at hown'
        obtain ⟨a5, c5, rfl, hc5, hcm5, hrow5⟩ := owns_row hown'
        clear hob hrd3 hg3 hb3 hown' hpl
        go_wp2_with (at_builtin; refine wpList_append_run hrun rfl rfl rfl rfl ?_; clear hrun)
        refine (same_any rfl rfl hrow5 (hl.below hb') (by omega)).mono ?_
        rintro e w6 ⟨rfl, n6, rfl⟩
        rw [beq_self_eq_true]
        go_wp2_with fail
        refine (end_any (hrd'.drewN n6)).mono ?_
        rintro e w6 ⟨rfl, rfl⟩
        rw [show rdEnd [] 0 = 0 from rfl]
        go_wp2_with fail
        refine (left_any (hrd'.drewN n6)).mono ?_
        rintro e w6 ⟨rfl, rfl⟩
        go_wp2_with fail
        refine (lives_any _).mono ?_
        rintro e w7 ⟨rfl, hb7⟩
        go_wp2
        go_ret
        exact ⟨rfl, Gr.transN hb' hb7⟩
      · have h1' : ¬ (k : Int) < m := by omega
        go_wp2_with fail
        refine (left_any hrdW).mono ?_
        rintro e w2 ⟨rfl, rfl⟩
        go_wp2_with fail
        refine (bytes_any hrdW (by omega)).mono ?_
        rintro e w3 ⟨vb, rfl, hob, hrd3, hg3⟩
        obtain ⟨v', w', hrun, hown', hrd', hb', hB', hb3⟩ := HS.out _ vb w3 hg3 hob hrd3 (Nat.le_refl _)
        have hpl : p + r.length = l.length := by have := HRL.out; omega
        rw [hpl, List.drop_length] at hrd'
        rw [hpl, List.take_length] at hown'
        obtain ⟨a5, c5, rfl, hc5, hcm5, hrow5⟩ := owns_row hown'
        clear hob hrd3 hg3 hb3 hown' hpl
        go_wp2_with (at_builtin; refine wpList_append_run hrun rfl rfl rfl rfl ?_; clear hrun)
        refine (same_any rfl rfl hrow5 (hl.below hb') (by omega)).mono ?_
        rintro e w6 ⟨rfl, n6, rfl⟩
        rw [beq_self_eq_true]
        go_wp2_with fail
        refine (end_any (hrd'.drewN n6)).mono ?_
        rintro e w6 ⟨rfl, rfl⟩
        rw [show rdEnd [] 0 = 0 from rfl]
        go_wp2_with fail
        refine (left_any (hrd'.drewN n6)).mono ?_
        rintro e w6 ⟨rfl, rfl⟩
        go_wp2_with fail
        refine (lives_any _).mono ?_
        rintro e w7 ⟨rfl, hb7⟩
        go_wp2
        go_ret
        exact ⟨rfl, Gr.transN hb' hb7⟩
section
variable {H : Type} {enc : TypeId × Value → H} {W : World} {base : Nat} {v0 v1 v2 : Value} {d0 d1 d2 : DataW H} {p0 p1 p2 : List MemPlace}
theorem bitsPieces_calls (o0 : Value.okWide Try.prog W .any base 23 v0) (h0 : DataW.Trod enc Try.prog W 0 (fun _ => true) true 23 v0 d0 p0)
    (o1 : Value.okWide Try.prog W .any base 41 v1) (h1 : DataW.Trod enc Try.prog W 0 (fun _ => true) true 41 v1 d1 p1) :
    Calls Try.prog 8 #[v0, v1] W fun e W' => e = .returned (.bool true) ∧ Below W.heap.size W W' := by
  obtain ⟨a, n, c, l, rfl, hn, hc, _, hr⟩ := open_byt Try.underlying23 Try.underlying5 cellsb o0 h0
  obtain ⟨a1, m, c1, zs, rfl, hm, hc1, hcm, hz, _⟩ := open_nums Try.underlying41 Try.underlying3 (by kernel_rfl) o1 h1
  exact pieces_law a n c l a1 m c1 zs W hn hc hr hm (Nat.le_trans hc1 hcm) hz
end
end Go.Proofs.Ytchpnhlblhklcaa
