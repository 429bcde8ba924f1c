/- The walk of XxhWrites. -/
import Derived.Test.YtjooojklkihkcaaX8
namespace Go.Proofs.Ytjooojklkihkcaa
open Go.ChangeShapes Go.WideShapes Go.ChangeAt Go.RowKit Go.Hd

/-- At the head of a round. -/
def XWRel (w : World) (g : Nat) (X : BitVec 64) (m : Nat) (all i : Value) (wr : World) : Prop :=
  ∃ (k : Nat) (L : List UInt8) (B0 : Nat) (S : Nat → Prop), k ≤ m ∧ k ≤ 20 ∧ L.length ≤ 100 * k ∧ i = .int .i64 k ∧ w.heap.size ≤ B0 ∧ B0 ≤ wr.heap.size ∧ wr.ownsRow B0 5 1 all L.length (L.map b8) ∧ HAt S wr g X L ∧ (∀ k, S k → k < wr.heap.size) ∧ Below w.heap.size w wr ∧ g < B0
/-- A loop over a row's own bytes. -/
def OwnB (w0 : World) (r : Option Nat) (n : Nat) (am : Option Addr) (i : Value) (wr : World) : Prop :=
  ∃ k : Nat, k ≤ n ∧ i = .int .i64 k ∧ w0.grownBy wr r ∧ (0 < n → ∃ mb, am = some ⟨mb, 0, none⟩ ∧ r = some mb ∧ Byts 5 wr mb n)
theorem wrap8 (z : Int) : IntKind.u8.wrap (z + 1) = (z + 1) % 256 := IntKind.wrap_u8 _

set_option maxHeartbeats 1000000 in
theorem writes_law (X : BitVec 64) (a1 : Option Addr) (m c1 : Nat) (xs : List (List Value)) (w : World) (hm : m = xs.length) (hmc : m ≤ maxLen) (hx1 : ∀ x ∈ xs, x.length = 1) (hxs : Row w a1 xs.flatten)
    (hrows : ∀ k, k < xs.length → ∃ (a : Option Addr) (n c : Nat) (l : List UInt8), xs.flatten[k]? = some (.slice a n c) ∧ n = l.length ∧ n ≤ c ∧ Row w a (l.map b8)) :
    Calls Try.prog 4 #[.int .u64 (X.toNat : Int), .slice a1 m c1] w fun e w' => e = .returned (.bool true) ∧ Below w.heap.size w w' := by
  have HRS := Lib.hid hrows
  have HX1 := Lib.hid hx1
  clear hrows hx1
  have hmM : m ≤ 9223372036854775807 := hmc
  have ht0 : (((sumF [] X).toNat : Int) != ((sumF [] X).toNat : Int)) = false := by simp
  go_enter Try.func4, Try.ntmps4
  go_wp2_with fail
  refine (new_any (S := fun _ => True) X (by rfl)).mono ?_
  rintro e w1 ⟨g, rfl, hg, hH, hb⟩
  have hgl := HAt_lt hH
  have hH1 : HAt (fun _ => False) w1 g X [] := by
    obtain ⟨a, c, h1, h2, h3, h4, h5⟩ := hH
    exact ⟨a, c, h1, h2, h3, h4, fun h => by simp at h⟩
  go_wp2_with fail
  refine (hsum_any hH1 (by simp)).mono ?_
  rintro e w2 ⟨rfl, hb2⟩
  have hH2 := HAt_below hH1 hb2
  have hb02 := Gr.trans hb hb2
  go_wp2_with fail
  refine (rsum_any X (l := []) (by rfl) (by rfl) (Row.nil _ _) (by decide) (by decide)).mono ?_
  rintro e w3 ⟨rfl, hb3⟩
  have hH3 := HAt_below hH2 hb3
  have hb03 := Gr.trans hb02 hb3
  have hs13 : w1.heap.size ≤ w3.heap.size := Nat.le_trans hb2.size hb3.size
  clear hH hH1 hH2 hb hb2 hb02 hb3
  go_wp2
  go_loopw [6, 7, 8, 9] (fun all i _ _ wr => XWRel w g X m all i wr) (fun _ i _ _ _ => 20 - (intOf i).toNat)
  case atStart => exact ⟨0, [], w3.heap.size, fun _ => False, Nat.zero_le _, Nat.zero_le _, Nat.le_refl _, rfl, hb03.size, Nat.le_refl _, World.ownsRow_nil _ _ _ _, hH3, fun _ h => h.elim, hb03, by omega⟩
  case round =>
    clear hH3 hb03
    obtain ⟨k, L, B0, S, hkm, hk20, hL, rfl, hB0, hB1, hown, hH, hS, hb, hgB⟩ := hrel
    by_cases hlt : k < m ∧ k < 20
    · obtain ⟨hlt1, hlt2⟩ := hlt
      obtain ⟨a, n, c, l0, hx, hn, hc, hl0⟩ := HRS.out k (by omega)
      subst hn
      have cz : wr.cell? ((hd a1).add k) = some (.slice a l0.length c) := (hxs.below hb).cell hx
      have sz : a1.isSome = true := by
        refine hxs.1 ?_
        rcases Nat.lt_or_ge k xs.flatten.length with h | h
        · omega
        · rw [List.getElem?_eq_none h] at hx; cases hx
      have hkI : (k : Int) < m := by omega
      have hkI2 : (k : Int) < 20 := by omega
      have hl : Row w a ((l0.take 100).map b8) := by rw [List.map_take]; exact hl0.take 100
      have hk : (l0.take 100).length ≤ 100 := List.length_take_le _ _
      have hml : min l0.length 100 = (l0.take 100).length := by simp; omega
      generalize l0.take 100 = l at *
      clear hx
      go_wp2_with fail
      refine (cut_any a _ c 100 _ (by decide) hc).mono ?_
      rintro e w4 ⟨rfl, rfl⟩
      go_wp2_with fail
      refine (copy_any a _ c l _ (by first | rfl | exact hml) (hl.below hb) (by omega)).mono ?_
      rintro e w5 ⟨v, rfl, hF⟩
      obtain ⟨am, cm, rb, rfl, hcm, hcm2, hrb, hrowb, hbb⟩ := own_byts hF.1
      have hH5 := HAt_below hH hF.2
      have hb5 := Gr.trans hb hF.2
      have hown5 := ownsRow_below hown hF.2
      have hs5 := hF.2.size
      go_wp2_with fail
      refine (write_any hH5 (by rfl) hrowb hcm (by omega)).mono ?_
      rintro e w6 ⟨rfl, hH6, hg6⟩
      have hb6 := Gr.ofGrown hb5 hg6 hg
      have hownlt := hown.lt
      have hown6 : w6.ownsRow B0 5 1 u6 L.length (L.map b8) := by
        refine hown5.kept hg6 ?_
        right; intro e; have := (hown5.lt g e).1; omega
      have hrow6 : Row w6 am (l.map b8) := by
        refine hrowb.keptFar hg6 (fun h0 e => ?_)
        obtain ⟨mb, e1, e2, _⟩ := hbb (by simpa using h0)
        have := (hrb mb e2).1
        subst e1
        simp only [hd_some, Option.some.injEq] at e
        omega
      obtain ⟨v', w7, hrun, hown7, hgr7, hvb⟩ := append_srcK (ty := 22) eB hown6 (Src.ofRow eB.ht am l.length cm (l.map b8) (by decide) (by simp) hrow6 (bytes_one l)) (by unfold maxLen; omega) (by omega) (Nat.le_trans hB1 (Nat.le_trans hs5 hg6.size))
      have hH7 : HAt (fun k => w5.heap.size ≤ k ∧ k < w6.heap.size) w7 g X (L ++ l) := HAt_far hH6 hgr7 (fun e => by have := (hownlt g e).1; omega) (fun k hk e => by have := (hownlt k e).2; omega)
      have hb7 : Below w.heap.size w w7 := Gr.ofOwn hb6 hgr7 (fun k hk => by have := (hownlt k hk).1; omega)
      have hbb7 : 0 < l.length → ∃ mb, am = some ⟨mb, 0, none⟩ ∧ rb = some mb ∧ Byts 5 w7 mb l.length := by
        intro h0
        obtain ⟨mb, e1, e2, hby⟩ := hbb h0
        have h1 := hrb mb e2
        refine ⟨mb, e1, e2, ?_⟩
        have hby6 : Byts 5 w6 mb l.length := by
          obtain ⟨ys, k1, k2⟩ := hby
          exact ⟨ys, k1.grown hg6 (by omega), k2⟩
        obtain ⟨ys, k1, k2⟩ := hby6
        exact ⟨ys, k1.keptBy hgr7 (fun e => by have := (hownlt mb e).2; omega), k2⟩
      have hrb7 : ∀ k, rb = some k → wr.heap.size ≤ k ∧ k < w5.heap.size := hrb
      have hown7' : w7.ownsRow B0 5 1 v' (L ++ l).length ((L ++ l).map b8) := by rw [List.length_append, List.map_append]; exact hown7
      have hv7 : ∀ k, v'.ownBlock = some k → rb ≠ some k := by
        intro k e1 e2
        have h1 := hrb k e2
        rcases hvb k e1 with h2 | h2
        · have := (hownlt k h2).2; omega
        · have := hg6.size; omega
      have hgr7S := Lib.hid hgr7.size
      have hs7 : wr.heap.size ≤ w7.heap.size := Nat.le_trans hs5 (Nat.le_trans hg6.size hgr7.size)
      clear hown hown5 hown6 hown7 hgr7 hH6 hH5 hH hb6 hb5 hg6 hrow6 hrowb hF hbb cz hb
      go_wp2_with (at_builtin; refine wpList_append_run hrun rfl rfl rfl rfl ?_)
      clear hrun
      obtain ⟨wp, hwp⟩ : ∃ wp : World, wp = wr := ⟨_, rfl⟩
      rw [← hwp] at *
      clear hwp
      go_loopw [9] (fun i wq => OwnB w7 rb l.length am i wq) (fun i _ => l.length - (intOf i).toNat)
      case atStart => exact ⟨0, Nat.zero_le _, rfl, World.grownBy.refl _ _, hbb7⟩
      case round =>
        obtain ⟨j, hj, rfl, hgr, hby⟩ := hrel
        by_cases hlt : j < l.length
        · obtain ⟨mb, rfl, rfl, hbm⟩ := hby (by omega)
          obtain ⟨z, cz, cf⟩ := hbm.cell hlt
          have hjI : (j : Int) < l.length := by omega
          go_wp2
          first
            | exact ⟨⟨j + 1, by omega, (by first | rfl | go_num | (congr 1; omega)), grown_set hgr _ _, fun _ => ⟨mb, rfl, rfl, hbm.set j _⟩⟩, by simp [intOf] <;> omega⟩
            | (refine ⟨?_, by simp [intOf] <;> omega⟩; (repeat apply Exists.intro); exact ⟨⟨j + 1, by omega, (by first | rfl | go_num | (congr 1; omega)), grown_set hgr _ _, fun _ => ⟨mb, rfl, rfl, hbm.set j _⟩⟩, rfl⟩)
        · have hjI : ¬ (j : Int) < l.length := by omega
          have hH8 : HAt (fun k => w5.heap.size ≤ k ∧ k < w6.heap.size) wr g X (L ++ l) := HAt_far hH7 hgr (fun e => by have := (hrb g e).1; omega) (fun k hk e => by have := (hrb k e).2; omega)
          have hb8 : Below w.heap.size w wr := Gr.ofOwn hb7 hgr (fun k hk => by have := (hrb k hk).1; omega)
          have hown8 : wr.ownsRow B0 5 1 v' (L ++ l).length ((L ++ l).map b8) := by
            refine hown7'.kept hgr ?_
            cases hv : v'.ownBlock with
            | none => left; rfl
            | some k =>
              right
              exact fun e => hv7 k hv e.symm
          obtain ⟨av, cv, hve, hvc, hvm, hrv, _⟩ := owns_at hown8
          have hs8 := hgr.size
          have hlen2 : (L ++ l).length ≤ 100 * (k + 1) := by rw [List.length_append]; omega
          have ht1 : (((sumF (L ++ l) X).toNat : Int) != ((sumF (L ++ l) X).toNat : Int)) = false := by simp
          have HSS : ∀ k, (w5.heap.size ≤ k ∧ k < w6.heap.size) → k < wr.heap.size := fun k hk => by
            have := hgr.size
            have := hgr7S.out
            omega
          obtain ⟨LL, hLL⟩ : ∃ LL, LL = L ++ l := ⟨_, rfl⟩
          rw [← hLL] at hH8 hown8 hrv hlen2 ht1 hve hvc
          have HLL := Lib.hid hLL
          clear hLL hH7 hown7' hv7 hbb7 hby hgr hb7 hl hl0 hrb hrb7
          subst hve
          go_wp2_with fail
          refine (hsum_any hH8 (by omega)).mono ?_
          rintro e1 w8 ⟨rfl, hb18⟩
          have hH9 := HAt_below hH8 hb18
          have hb08 := Gr.trans hb8 hb18
          have hown9 := ownsRow_below hown8 hb18
          have hs18 := hb18.size
          go_wp2_with fail
          refine (rsum_any X (by rfl) (by rfl) (hrv.below hb18) hvc (by omega)).mono ?_
          rintro e2 w9 ⟨rfl, hb19⟩
          have hH10 := HAt_below hH9 hb19
          have hb09 := Gr.trans hb08 hb19
          have hown10 := ownsRow_below hown9 hb19
          have hs19 := hb19.size
          have hrel' : ∀ i, i = Value.int .i64 ((k + 1 : Nat) : Int) → XWRel w g X m (.slice av LL.length cv) i w9 := fun i hi => ⟨k + 1, LL, B0, _, by omega, by omega, hlen2, hi, hB0, by omega, hown10, hH10, fun k hk => by have := HSS k hk; omega, hb09, hgB⟩
          have HREL := Lib.hid hrel'
          clear hH8 hH9 hH10 hown8 hown9 hown10 hrv hb8 hb08 hb09 hb18 hb19 hrel' HSS
          go_wp2
          first
            | exact ⟨HREL.out _ (by first | rfl | go_num | (congr 1; omega)), by simp [intOf] <;> omega⟩
            | (refine ⟨?_, by simp [intOf] <;> omega⟩; (repeat apply Exists.intro); exact ⟨HREL.out _ (by first | rfl | go_num | (congr 1; omega)), rfl⟩)
    · have hbW := hb
      rcases Nat.lt_or_ge k m with h1 | h1
      · have h2 : ¬ (k : Int) < 20 := by omega
        have h1' : (k : Int) < m := by omega
        go_wp2_with fail
        refine (lives3_any _).mono ?_
        rintro e9 w9 ⟨rfl, hb9⟩
        go_wp2
        go_ret
        exact ⟨rfl, Gr.trans hbW hb9⟩
      · have h1' : ¬ (k : Int) < m := by omega
        go_wp2_with fail
        refine (lives3_any _).mono ?_
        rintro e9 w9 ⟨rfl, hb9⟩
        go_wp2
        go_ret
        exact ⟨rfl, Gr.trans hbW hb9⟩
section
variable {H : Type} {enc : TypeId × Value → H} {W : World} {base : Nat} {v0 v1 v2 v3 v4 : Value} {d0 d1 d2 d3 d4 : DataW H} {p0 p1 p2 p3 p4 : List MemPlace}
theorem xxhWrites_calls (o0 : Value.okWide Try.prog W .any base 23 v0) (h0 : DataW.Trod enc Try.prog W 0 (fun _ => true) true 23 v0 d0 p0)
    (o1 : Value.okWide Try.prog W .any base 30 v1) (h1 : DataW.Trod enc Try.prog W 0 (fun _ => true) true 30 v1 d1 p1) :
    Calls Try.prog 4 #[v0, v1] W fun e W' => e = .returned (.bool true) ∧ Below W.heap.size W W' := by
  obtain ⟨x, rfl, rfl, rfl, w0⟩ := open_int Try.underlying23 o0 h0
  obtain ⟨X, rfl⟩ := u64_eq (u64_wf w0).1 (u64_wf w0).2
  obtain ⟨a, n, c, xs, rfl, hn, hc, hcm, hrow, hel⟩ := open_rows (s := 1) Try.underlying30 (by kernel_rfl) o1 h1
  refine writes_law X a n c xs W hn (Nat.le_trans hc hcm) (fun x hx => (hel x hx).1) hrow (fun k hk => ?_)
  obtain ⟨v, e1, e2⟩ := flat1 (fun x hx => (hel x hx).1) k hk
  obtain ⟨_, fuel, y, hy⟩ := hel xs[k] (List.getElem_mem hk)
  obtain ⟨a', n', c', l, f1, f2, f3, _, f5⟩ := open_byt_cells Try.underlying22 Try.underlying5 (by kernel_rfl) hy
  rw [e1] at f1
  obtain rfl : v = _ := by simpa using f1
  exact ⟨a', n', c', l, e2, f2, f3, f5⟩
end
end Go.Proofs.Ytjooojklkihkcaa
