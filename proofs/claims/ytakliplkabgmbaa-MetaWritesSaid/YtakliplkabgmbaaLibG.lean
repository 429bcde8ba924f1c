/- Regions that draw their order and hold calls that hand back one value and only make memory: such a call may be taken first, if what follows holds in whatever greater memory. -/
import Derived.Test.YtakliplkabgmbaaLibA
import Derived.OrdersHeld
set_option maxRecDepth 20000
namespace Go.Hd
open Go Go.RowKit

/-- More memory, what was there as it was. -/
def Mo (w w' : World) : Prop := Below w.heap.size w w'
theorem Mo.refl (w : World) : Mo w w := Below.refl _ _
theorem Mo.trans {a b c : World} (h : Mo a b) (k : Mo b c) : Mo a c := Gr.trans h k
theorem Mo.size' {a b : World} (h : Mo a b) : a.heap.size ≤ b.heap.size := Below.size h
section
variable {P : Program} {ops : Array Oper} {Q : Exit → Act → World → Prop} {md : Region.Mode} {S : World → Prop}

/-- In state a, in every world that meets S: the operation yields v and leaves the world alone, or it is a call that hands back v and only makes memory. -/
def Tame (P : Program) (ops : Array Oper) (S : World → Prop) (o : Oper) (v : Value) (a : Act) : Prop :=
  (Region.wanted o (yielded ops a.tmps) = true ∧ ∀ w, S w → (execOp a.eval o).run P w = .ok (.value v) w ∨
    ∃ f args, (execOp a.eval o).run P w = .ok (.enter f args) w ∧ Calls P f args w fun e w' => e = .returned v ∧ Mo w w') ∨
  (Region.wanted o (yielded ops a.tmps) = false ∧ v = undef)
theorem Tame.wpOp {i : Nat} {o : Oper} {v : Value} {a : Act} (hi : ops[i]? = some o) (hy : Tame P ops S o v a)
    {K : Act → World → Prop} {w : World} (hS : S w) (h : ∀ w', Mo w w' → K (a.put o.dst v) w') : wpOp P ops Q i K a w := by
  unfold Go.wpOp
  simp only [hi]
  rcases hy with ⟨hw, hv⟩ | ⟨hw, rfl⟩
  · rw [hw, if_pos rfl]
    refine .inl ?_
    unfold Oper.wp
    rcases hv w hS with h1 | ⟨f, args, h1, h2⟩
    · rw [h1]; exact h w (Mo.refl w)
    · rw [h1]
      refine Calls.mono h2 ?_
      rintro e w' ⟨rfl, hm⟩
      exact h w' hm
  · rw [hw, if_neg (by decide)]
    exact h w (Mo.refl w)
theorem Tame.same {o : Oper} {v : Value} {a a' : Act} (hy : Tame P ops S o v a) (he : execOp a'.eval o = execOp a.eval o)
    (hw : Region.wanted o (yielded ops a'.tmps) = Region.wanted o (yielded ops a.tmps)) : Tame P ops S o v a' := by
  unfold Tame at *
  rw [he, hw]; exact hy
/-- What a state is behind an operation: a value was put, perhaps behind a deferred call. -/
def Behind (o : Oper) (a a' : Act) : Prop := ∃ u ds, a' = Act.put { a with defers := ds } o.dst u
theorem wpOp_behind {j : Nat} {o : Oper} (hj : ops[j]? = some o) {K : Act → World → Prop} {a : Act} {w : World} (h : wpOp P ops Q j K a w) : wpOp P ops Q j (fun a' w' => Behind o a a' ∧ K a' w') a w := by
  unfold wpOp at *
  simp only [hj] at *
  split
  · rename_i hw
    simp only [hw, if_true] at h
    rcases h with h | h
    · refine .inl ?_
      unfold Oper.wp at *
      generalize (execOp a.eval o).run P w = r at *
      cases r with
      | ok n w' =>
        cases n <;> simp only [Oper.upon] at h ⊢
        case value u => exact ⟨⟨u, a.defers, rfl⟩, h⟩
        case skip => exact ⟨⟨undef, a.defers, rfl⟩, h⟩
        case defer d => exact ⟨⟨undef, d :: a.defers, rfl⟩, h⟩
        case enter f args =>
          refine Calls.mono h fun e w'' he => ?_
          cases e with
          | returned u => exact ⟨⟨u, a.defers, rfl⟩, he⟩
          | panicked c => exact he
          | outgrown => exact he
        case row row args => exact Rows.mono h fun u w'' he => ⟨⟨u, a.defers, rfl⟩, he⟩
      | halt x w' => cases x <;> simp only [Oper.upon] at h ⊢ <;> exact h
    · exact .inr h
  · rename_i hw
    simp only [hw] at h
    exact ⟨⟨undef, a.defers, rfl⟩, h⟩
/-- Whatever order is picked from here on, with memory made in between; behind each operation S holds, which may look at what has come up. -/
def wpAnyU (P : Program) (md : Region.Mode) (ops : Array Oper) (Q : Exit → Act → World → Prop) (S : Array Bool → World → Prop) : Nat → Array Bool → Act → World → Prop
  | 0, listed, a, w => Region.ready md ops listed = [] ∧ ∀ w', Mo w w' → Q .normal a w'
  | fuel + 1, listed, a, w => ∀ w', Mo w w' →
    (Region.ready md ops listed = [] → Q .normal a w') ∧
    ∀ i ∈ Region.ready md ops listed, wpOp P ops Q i (fun a' w'' => S (listed.setIfInBounds i true) w'' ∧ wpAnyU P md ops Q S fuel (listed.setIfInBounds i true) a' w'') a w'
theorem wpAnyU.up {S : Array Bool → World → Prop} : ∀ {fuel : Nat} {listed : Array Bool} {a : Act} {w w' : World}, wpAnyU P md ops Q S fuel listed a w → Mo w w' → wpAnyU P md ops Q S fuel listed a w'
  | 0, _, _, _, _, h, hm => ⟨h.1, fun w'' h2 => h.2 w'' (hm.trans h2)⟩
  | _ + 1, _, _, _, _, h, hm => fun w'' h2 => h w'' (hm.trans h2)
theorem wpAny_of_up {S : Array Bool → World → Prop} : ∀ (fuel : Nat) (listed : Array Bool) (a : Act) (w : World), wpAnyU P md ops Q S fuel listed a w → wpAny P md ops Q fuel listed a w
  | 0, _, _, w, h => ⟨h.1, h.2 w (Mo.refl w)⟩
  | fuel + 1, _, _, w, h => ⟨(h w (Mo.refl w)).1, fun i hi => wpOp_mono (fun a' w' h' => wpAny_of_up fuel _ a' w' h'.2) ((h w (Mo.refl w)).2 i hi)⟩
theorem wpAnyU_first {S : Array Bool → World → Prop} {A : World → Prop} {I : Array Bool → Prop} {i : Nat} {oi : Oper} {v : Value} (hSm : ∀ L w w', S L w → Mo w w' → S L w') (hSi : ∀ L w, S (L.setIfInBounds i true) w ↔ S L w) (hSA : ∀ L w, S L w → I L → A w)
    (hi : ops[i]? = some oi) (hsel : ∀ (j : Nat) (o : Oper) cs b, ops[j]? = some o → o.op ≠ .select cs b)
    (hI : ∀ L j, I L → i ∈ Region.ready md ops L → j ∈ Region.ready md ops L → j ≠ i → I (L.setIfInBounds j true))
    (hQ : ∀ c a w, Q (.panic c) (a.put oi.dst v) w → Q (.panic c) a w) :
    ∀ (fuel : Nat) (listed : Array Bool) (a : Act) (w : World),
      (∀ j oj, ops[j]? = some oj → j ≠ i → listed.getD j true = false → (∀ e ∈ oj.after, Region.binds md e = true → e.on ≠ i) → oi.apart ops oj = true) →
      i ∈ Region.ready md ops listed → Tame P ops A oi v a → S listed w → I listed →
      wpAnyU P md ops Q S fuel (listed.setIfInBounds i true) (a.put oi.dst v) w → wpAnyU P md ops Q S (fuel + 1) listed a w := by
  intro fuel
  induction fuel with
  | zero =>
    intro listed a w _ hr hy hS hIl H w1 hm
    refine ⟨fun h => (by rw [h] at hr; cases hr), fun j hj => ?_⟩
    by_cases hji : j = i
    · subst hji
      exact hy.wpOp hi (hSA _ _ (hSm _ _ _ hS hm) hIl) (fun w2 h2 => ⟨(hSi _ _).2 (hSm _ _ _ hS (hm.trans h2)), H.up (hm.trans h2)⟩)
    · have := ready_mono hj hji
      rw [H.1] at this
      cases this
  | succ fuel ih =>
    intro listed a w hfree hr hy hS hIl H w1 hm
    refine ⟨fun h => (by rw [h] at hr; cases hr), fun j hj => ?_⟩
    by_cases hji : j = i
    · subst hji
      exact hy.wpOp hi (hSA _ _ (hSm _ _ _ hS hm) hIl) (fun w2 h2 => ⟨(hSi _ _).2 (hSm _ _ _ hS (hm.trans h2)), H.up (hm.trans h2)⟩)
    · have h1 := (H w1 hm).2 j (ready_mono hj hji)
      obtain ⟨hjun, oj, hoj, hall⟩ := mem_ready.1 hj
      have hnot : ∀ e ∈ oj.after, Region.binds md e = true → e.on ≠ i := fun e he hb heq => by
        have h1 := hall e he hb
        have h0 := (mem_ready.1 hr).1
        rw [heq] at h1
        rcases Nat.lt_or_ge i listed.size with h' | h'
        · simp [h'] at h0 h1; rw [h0] at h1; cases h1
        · simp [Array.getElem?_eq_none h'] at h1
      have hap := hfree j oj hoj hji hjun hnot
      obtain ⟨_, _, p3⟩ := Oper.apart_spec hap
      have hyf : YieldsIf P ops (fun _ => False) oi v a := hy.imp (fun ⟨h, _⟩ => ⟨h, fun _ h => h.elim⟩) id
      have h2 := wpOp_behind hoj (wpOp_putIf hoj hap (fun cs b => hsel i oi cs b hi) (fun cs b => hsel j oj cs b hoj) hQ hyf h1)
      have hfree' : ∀ k ok, ops[k]? = some ok → k ≠ i → (listed.setIfInBounds j true).getD k true = false →
          (∀ e ∈ ok.after, Region.binds md e = true → e.on ≠ i) → oi.apart ops ok = true := fun k ok hk hki hun hno => by
        refine hfree k ok hk hki ?_ hno
        by_cases hjk : j = k
        · subst hjk; exact hjun
        · rw [getD_set_ne true hjk] at hun; exact hun
      refine wpOp_mono (fun a' w' h3 => ?_) h2
      obtain ⟨⟨u, ds, rfl⟩, _, h4, h5⟩ := h3
      have hy' : Tame P ops A oi v (Act.put { a with defers := ds } oj.dst u) :=
        (hy.same (a' := { a with defers := ds }) rfl rfl).same (execOp_put oi (fun cs b => hsel i oi cs b hi) _ oj.dst u p3) (wanted_put oi _ oj.dst u p3)
      have h4' : S (listed.setIfInBounds j true) w' := by
        rw [Array.setIfInBounds_comm _ _ (Ne.symm hji)] at h4
        exact (hSi _ _).1 h4
      refine ⟨h4', ih (listed.setIfInBounds j true) _ w' hfree' (ready_mono hr (Ne.symm hji)) hy' h4' (hI _ _ hIl hr hj hji) ?_⟩
      rw [Array.setIfInBounds_comm _ _ hji]
      exact h5
/-- Number i first. -/
theorem wpAnyU_take {S : Array Bool → World → Prop} {A : World → Prop} {i : Nat} {oi : Oper} {v : Value} {fuel : Nat} {listed : Array Bool} {a a' : Act} {w : World} (hSm : ∀ L w w', S L w → Mo w w' → S L w') (hSi : ∀ L w, S (L.setIfInBounds i true) w ↔ S L w) (hSA : ∀ L w, S L w → A w)
    (hi : ops[i]? = some oi) (hs : Region.noSelect ops = true) (hf : Region.free md ops listed i = true) (hr : (Region.ready md ops listed).contains i = true)
    (hQ : ∀ c a w, Q (.panic c) (a.put oi.dst v) w → Q (.panic c) a w) (hS : S listed w) (hy : Tame P ops A oi v a) (ha : a.put oi.dst v = a')
    (h : wpAnyU P md ops Q S fuel (listed.setIfInBounds i true) a' w) : wpAnyU P md ops Q S (fuel + 1) listed a w :=
  wpAnyU_first (I := fun _ => True) hSm hSi (fun L w h _ => hSA L w h) hi (Region.noSelect_spec hs) (fun _ _ _ _ _ _ => trivial) hQ fuel listed a w (Region.free_spec hi hf) (by simpa using hr) hy hS trivial (ha ▸ h)
/-- Number i first: it may look at what stands until number k comes up, which waits for it. -/
theorem wpAnyU_takeK {S : Array Bool → World → Prop} {A : World → Prop} {i : Nat} (k : Nat) {oi ok : Oper} {v : Value} {fuel : Nat} {listed : Array Bool} {a a' : Act} {w : World} (hSm : ∀ L w w', S L w → Mo w w' → S L w') (hSi : ∀ L w, S (L.setIfInBounds i true) w ↔ S L w) (hSA : ∀ L w, S L w → L.getD k false = false → A w)
    (hi : ops[i]? = some oi) (hk : ops[k]? = some ok) (hki : (ok.after.any fun e => Region.binds md e && e.on == i) = true) (hkl : listed.getD k false = false)
    (hs : Region.noSelect ops = true) (hf : Region.free md ops listed i = true) (hr : (Region.ready md ops listed).contains i = true)
    (hQ : ∀ c a w, Q (.panic c) (a.put oi.dst v) w → Q (.panic c) a w) (hS : S listed w) (hy : Tame P ops A oi v a) (ha : a.put oi.dst v = a')
    (h : wpAnyU P md ops Q S fuel (listed.setIfInBounds i true) a' w) : wpAnyU P md ops Q S (fuel + 1) listed a w := by
  subst ha
  refine wpAnyU_first (I := fun L => L.getD k false = false) hSm hSi hSA hi (Region.noSelect_spec hs) (fun L j hL hiL hjL hji => ?_) hQ fuel listed a w (Region.free_spec hi hf) (by simpa using hr) hy hS hkl h
  by_cases hjk : j = k
  · exfalso
    subst hjk
    obtain ⟨_, oj, hoj, hall⟩ := mem_ready.1 hjL
    rw [hk] at hoj
    obtain rfl := Option.some.inj hoj
    obtain ⟨e, he, hb⟩ := Array.any_eq_true'.1 hki
    simp only [Bool.and_eq_true, beq_iff_eq] at hb
    have h1 := hall e he hb.1
    rw [hb.2] at h1
    have h0 := (mem_ready.1 hiL).1
    rcases Nat.lt_or_ge i L.size with h' | h'
    · simp [h'] at h0 h1; rw [h0] at h1; cases h1
    · simp [Array.getElem?_eq_none h'] at h1
  · rw [getD_set_ne false hjk]; exact hL
theorem wpAnyU_all {S : Array Bool → World → Prop} {rs : List Nat} {fuel : Nat} {listed : Array Bool} {a : Act} {w : World} (hr : Region.ready md ops listed = rs) (hne : rs ≠ [])
    (h : ∀ w', Mo w w' → ∀ i ∈ rs, wpOp P ops Q i (fun a' w'' => S (listed.setIfInBounds i true) w'' ∧ wpAnyU P md ops Q S fuel (listed.setIfInBounds i true) a' w'') a w') : wpAnyU P md ops Q S (fuel + 1) listed a w :=
  fun w' hm => ⟨fun h0 => absurd (hr ▸ h0) hne, hr ▸ h w' hm⟩
theorem wpAnyU_done {S : Array Bool → World → Prop} {listed : Array Bool} {a : Act} {w : World} (hr : Region.ready md ops listed = []) (h : ∀ w', Mo w w' → Q .normal a w') :
    ∀ fuel, wpAnyU P md ops Q S fuel listed a w
  | 0 => ⟨hr, h⟩
  | _ + 1 => fun w' hm => ⟨fun _ => h w' hm, by rw [hr]; simp⟩
theorem wp_region_up {S : Array Bool → World → Prop} {id : Nat} {a : Act} {w : World} (hm : P.follows .mixedOrders = true)
    (h : wpAnyU P .any ops Q S ops.size (Array.replicate ops.size false) a { w with drawn := w.drawn + 1 }) : (Code.region id ops true).wp P Q a w :=
  wp_region_any hm (wpAny_of_up _ _ _ _ h)
theorem wp_region_upN {S : Array Bool → World → Prop} {id : Nat} {a : Act} {w : World} (N : Nat) (hN : ops.size = N) (hm : P.follows .mixedOrders = true)
    (h : wpAnyU P .any ops Q S N (Array.replicate N false) a (w.drewN 1)) : (Code.region id ops true).wp P Q a w := by
  subst hN
  exact wp_region_up hm h
theorem run_ldOp {ρ : Operand → Value} {dst : Option Tmp} {ty : TypeId} {pos : String} {after : Array Edge} {guard : Option (Nat × Bool)} {t : TypeId} {x : Operand} {v : Value} {w : World} (h : (ldOp t (ρ x)).run P w = .ok v w) :
    (execOp ρ { dst, op := .load t x, type := ty, pos, after, guard }).run P w = .ok (.value v) w := by
  rw [ex_ld, Sem.run_bind, h]; rfl
theorem run_stoOp {ρ : Operand → Value} {dst : Option Tmp} {ty : TypeId} {pos : String} {after : Array Edge} {guard : Option (Nat × Bool)} {t : TypeId} {x y : Operand} {w w' : World} (h : (stoOp t (ρ x) (ρ y)).run P w = .ok () w') :
    (execOp ρ { dst, op := .store t x y, type := ty, pos, after, guard }).run P w = .ok .skip w' := by
  rw [ex_st, Sem.run_bind, h]; rfl
theorem run_bsOp {ρ : Operand → Value} {dst : Option Tmp} {ty : TypeId} {pos : String} {after : Array Edge} {guard : Option (Nat × Bool)} {t : TypeId} {n : Nat} {parts : Array (Nat × Operand)} {vals : Array (Nat × Value)} {v : Value} {w w' : World} (hp : (parts.map fun (i, x) => (i, ρ x)) = vals) (h : (bsOp t n vals).run P w = .ok v w') :
    (execOp ρ { dst, op := .buildSlice t n parts, type := ty, pos, after, guard }).run P w = .ok (.value v) w' := by
  rw [ex_bs, hp, Sem.run_bind, h]; rfl
theorem run_append {o : Oper} {a : Act} {w w' : World} {t tx : TypeId} {v1 v2 v' : Value} {s x : Operand}
    (hrun : (Builtin.append_ #[t, tx] o.type #[v1, v2]).run P w = .ok v' w') (ho : o.op = .call { callee := .builtin .append, args := #[s, x], argTypes := #[t, tx] }) (hs : a.eval s = v1) (hx : a.eval x = v2) :
    (execOp a.eval o).run P w = .ok (.value v') w' := by
  unfold execOp
  simp only [ho, resolve, invoke, builtin, Sem.run_bind, Sem.run_pure, Result.andThen_ok, List.map_toArray, List.map_cons, List.map_nil, hs, hx, hrun]
/-- A slice of rows. -/
theorem bsOp_rows {t e : TypeId} {z : Value} {s : Nat} {vs : List (List Value)} {n : Nat} {parts : Array (Nat × Value)} {w : World} (hu : P.underlying t = some (.slice e)) (hz : (P.info? e).map (fun i => (i.zero, i.size)) = some (some z, s)) (hs : 0 < s) (hn : n = vs.length) (hs2 : n * s ≤ 10000) (h0 : 0 < n)
    (_hzs : z.cells.size = s) (hc : ∀ v ∈ vs, v.length = s) (hp : parts.toList = ((vs.map fun v => Value.agg v.toArray).zipIdx 0).map fun x => (x.2, x.1)) :
    (bsOp t n parts).run P w = .ok (.slice (some ⟨w.heap.size, 0, none⟩) n n) (w.alloc (.cells vs.flatten.toArray e)) := by
  obtain ⟨i, hi, hzz⟩ := Option.map_eq_some_iff.1 hz
  simp only [Prod.mk.injEq] at hzz
  obtain ⟨hz1, hz2⟩ := hzz
  refine run_buildSlice w t e n _ _ i z hu hi hz1 (by rw [hz2]; omega) (by rw [hz2]; exact Nat.ne_of_gt (Nat.mul_pos h0 hs)) ?_
  rw [hz2, hp]
  have := Great.fill_whole hs (vs.map fun v => Value.agg v.toArray) ((Array.range (n * s)).map (z.cells[· % z.cells.size]!)) (fun v hv => by
    obtain ⟨y, hy, rfl⟩ := List.mem_map.1 hv
    simp [Value.cells, hc y hy]) (by simp [hn])
  rw [this]
  congr 2
  rw [List.flatMap_map]
  simp [Value.cells, List.flatMap]
/-! One operation that comes up. -/
theorem wpOp_val {i : Nat} {o : Oper} {v : Value} {a a' : Act} {K : Act → World → Prop} {w w' : World} (hi : ops[i]? = some o) (hw : o.guard = none) (hr : (execOp a.eval o).run P w = .ok (.value v) w') (ha : a.put o.dst v = a') (h : K a' w') : wpOp P ops Q i K a w := by
  subst ha
  unfold Go.wpOp
  simp only [hi]
  have : Region.wanted o (yielded ops a.tmps) = true := by unfold Region.wanted; rw [hw]
  rw [this, if_pos rfl]
  refine .inl ?_
  unfold Oper.wp
  rw [hr]; exact h
theorem wpOp_skip {i : Nat} {o : Oper} {a a' : Act} {K : Act → World → Prop} {w w' : World} (hi : ops[i]? = some o) (hw : o.guard = none) (hr : (execOp a.eval o).run P w = .ok .skip w') (ha : a.put o.dst undef = a') (h : K a' w') : wpOp P ops Q i K a w := by
  subst ha
  unfold Go.wpOp
  simp only [hi]
  have : Region.wanted o (yielded ops a.tmps) = true := by unfold Region.wanted; rw [hw]
  rw [this, if_pos rfl]
  refine .inl ?_
  unfold Oper.wp
  rw [hr]; exact h
theorem wpOp_enter {i : Nat} {o : Oper} {f : FuncId} {args : Array Value} {a : Act} {K : Act → World → Prop} {w : World} (hi : ops[i]? = some o) (hw : o.guard = none) (hr : (execOp a.eval o).run P w = .ok (.enter f args) w)
    (h : Calls P f args w fun e w' => ∃ u, e = .returned u ∧ K (a.put o.dst u) w') : wpOp P ops Q i K a w := by
  unfold Go.wpOp
  simp only [hi]
  have : Region.wanted o (yielded ops a.tmps) = true := by unfold Region.wanted; rw [hw]
  rw [this, if_pos rfl]
  refine .inl ?_
  unfold Oper.wp
  rw [hr]
  refine Calls.mono h ?_
  rintro e w' ⟨u, rfl, hk⟩
  exact hk
theorem Tame.val {o : Oper} {v : Value} {a : Act} (hw : o.guard = none) (h : ∀ w, S w → (execOp a.eval o).run P w = .ok (.value v) w) : Tame P ops S o v a :=
  .inl ⟨by unfold Region.wanted; rw [hw], fun w hS => .inl (h w hS)⟩
theorem Tame.enter {o : Oper} {v : Value} {a : Act} {f : FuncId} {args : Array Value} (hw : o.guard = none) (hr : ∀ w, (execOp a.eval o).run P w = .ok (.enter f args) w) (h : ∀ w, S w → Calls P f args w fun e w' => e = .returned v ∧ Mo w w') : Tame P ops S o v a :=
  .inl ⟨by unfold Region.wanted; rw [hw], fun w hS => .inr ⟨f, args, hr w, h w hS⟩⟩
end
end Go.Hd
