/- Joined: what one statement of this layer stands on, part 12 of 15; nothing is assumed. -/
import Derived.Deep.CutBlock
import Derived.Deep.DeepCutAuto
import Derived.Deep.RegionLaw
import Derived.Test.YtpchogicdnfggaaDoorKV11
set_option maxRecDepth 20000
namespace Go.Proofs.YtpchogicdnfggaaDoor
open Go.RowKit Go.Hd
/-- An item, none of it too long. -/
def cutI (x : Itm) : Itm := { x with path := x.path.take 250, target := x.target.take 250, parts := x.parts.take 70 }
/-- One element of s cells put behind a row of the call's own. -/
theorem own_appS {t ty e : TypeId} {z : Value} {s bytes : Nat} (E : Elem Tryd.prog t e z s bytes) (hs : 0 < s) {w : World} {base : Nat} {v : Value} {n : Nat} {xs : List Value} (hown : w.ownsRow base e s v n xs)
    (cs : List Value) (hc : cs.length = s) (h1 : ∀ u ∈ cs, u.oneCell' = true) (h63 : n + 1 ≤ maxLen) (hbytes : (n + 1) * bytes ≤ 140737488355328) (hbase : base ≤ w.heap.size) :
    ∃ a' c' w', (Builtin.append_ #[t, t] ty #[v, .slice (some ⟨w.heap.size, 0, none⟩) 1 1]).run Tryd.prog (w.alloc (.cells cs.toArray e)) = .ok (.slice a' (n + 1) c') w' ∧ w'.ownsRow base e s (.slice a' (n + 1) c') (n + 1) (xs ++ cs) ∧ Gro w w' v (.slice a' (n + 1) c') := by
  have hsrc : Src Tryd.prog s t (.slice (some ⟨w.heap.size, 0, none⟩) 1 1) 1 cs (w.alloc (.cells cs.toArray e)) :=
    Src.ofRow E.ht _ 1 1 cs hs (by simpa using hc) (by simpa using (Blk.new w e cs.toArray).row) h1
  obtain ⟨v', w', h1, h2, h3, h4⟩ := append_srcK (ty := ty) E (hown.alloc _) hsrc h63 hbytes (by simp; omega)
  obtain ⟨a', c', rfl, _⟩ := owns_rowN h2 hs
  have hb0 : Below w.heap.size w (w.alloc (.cells cs.toArray e)) := (Below.refl _ _).alloc (Nat.le_refl _) _
  exact ⟨a', c', w', h1, h2, (Gro.ofBelow hb0).trans ⟨h3, h4⟩⟩
theorem prtC_one (p : Prt) : ∀ u ∈ prtC p, u.oneCell' = true := by
  intro u hu
  rcases List.mem_append.1 hu with h | h
  · exact bytes_one _ _ h
  · simp at h; subst h; rfl
theorem Gro.blkB {w w' : World} {v u : Value} {q base : Nat} {T : TypeId} {xs : List Value} (h : Gro w w' v u) (hb : Blk w q T xs) (hv : ∀ k, v.ownBlock = some k → base ≤ k) (hq : q < base) : Blk w' q T xs :=
  (h.blk hb (fun e => by have := hv _ e; omega)).1
/-- An item's cells, its parts in blocks of this kind. -/
def ItP (ok : Nat → Prop) (w : World) (cs : List Value) (x : Itm) : Prop := ∃ a c, cs = itC x a c ∧ x.parts.length ≤ c ∧ c ≤ maxLen ∧ Row w a (x.parts.map prtC).flatten ∧ ItmOk x ∧ (0 < x.parts.length → ok (hd a).block)
theorem ItP.at {ok : Nat → Prop} {w : World} {cs : List Value} {x : Itm} (h : ItP ok w cs x) : ItAt w cs x := by
  obtain ⟨a, c, h1, h2, h3, h4, h5, _⟩ := h
  exact ⟨a, c, h1, h2, h3, h4, h5⟩
theorem ItP.below {ok : Nat → Prop} {w w' : World} {cs : List Value} {x : Itm} (h : ItP ok w cs x) (hb : Below w.heap.size w w') : ItP ok w' cs x := by
  obtain ⟨a, c, h1, h2, h3, h4, h5, h6⟩ := h
  exact ⟨a, c, h1, h2, h3, h4.below hb, h5, h6⟩
theorem ItP.mono {ok ok' : Nat → Prop} {w : World} {cs : List Value} {x : Itm} (h : ItP ok w cs x) (hk : ∀ b, ok b → b < w.heap.size → ok' b) : ItP ok' w cs x := by
  obtain ⟨a, c, h1, h2, h3, h4, h5, h6⟩ := h
  refine ⟨a, c, h1, h2, h3, h4, h5, fun h0 => hk _ (h6 h0) (h4.block_lt ?_)⟩
  rw [flatten_len (s := 33) (prts33I h5.parts), List.length_map]; omega
theorem ItP.kept {ok : Nat → Prop} {w w' : World} {cs : List Value} {x : Itm} {r : Option Nat} (h : ItP ok w cs x) (hg : w.grownBy w' r) (hr : ∀ b, ok b → r ≠ some b) : ItP ok w' cs x := by
  obtain ⟨a, c, h1, h2, h3, h4, h5, h6⟩ := h
  refine ⟨a, c, h1, h2, h3, h4.keptFar hg (fun h0 => hr _ (h6 ?_)), h5, h6⟩
  rw [flatten_len (s := 33) (prts33I h5.parts), List.length_map] at h0; omega
/-- Items in a row of the call's own. -/
def ItsO (base : Nat) (w : World) (v : Value) (l : List Itm) : Prop := ∃ css : List (List Value), css.length = l.length ∧ w.ownsRow base 24 7 v l.length css.flatten ∧ (∀ c ∈ css, c.length = 7) ∧ ∀ (i : Nat) (c : List Value) (x : Itm), css[i]? = some c → l[i]? = some x → ItP (fun b => base ≤ b ∧ v.ownBlock ≠ some b) w c x
theorem ItsO.nil (base : Nat) (w : World) : ItsO base w (.slice none 0 0) [] := ⟨[], rfl, World.ownsRow_nil _ _ _ _, by simp, by simp⟩
theorem ItsO.below {base : Nat} {w w' : World} {v : Value} {l : List Itm} (h : ItsO base w v l) (hb : Below w.heap.size w w') : ItsO base w' v l := by
  obtain ⟨css, h1, h2, h3, h4⟩ := h
  exact ⟨css, h1, ownsRow_below h2 hb, h3, fun i c x hc hx => (h4 i c x hc hx).below hb⟩
theorem ItsO.at {base : Nat} {w : World} {v : Value} {l : List Itm} (h : ItsO base w v l) : ∃ a c, v = .slice a l.length c ∧ l.length ≤ c ∧ c ≤ maxLen ∧ ItsAt w a l := by
  obtain ⟨css, h1, h2, h3, h4⟩ := h
  obtain ⟨a, c, rfl, k1, k2, k3, k4⟩ := owns_rowN h2 (by decide)
  exact ⟨a, c, rfl, k1, k2, css, h1, k3, h3, fun i c x hc hx => (h4 i c x hc hx).at⟩
theorem ItsO.lo {base : Nat} {w : World} {v : Value} {l : List Itm} (h : ItsO base w v l) : ∀ k, v.ownBlock = some k → base ≤ k ∧ k < w.heap.size := by
  obtain ⟨css, h1, h2, h3, h4⟩ := h
  exact fun k hk => ⟨own_lt h2 k hk, own_old h2 k hk⟩
theorem eIT7 : Elem Tryd.prog 39 24 (.agg zIT) 7 88 := eIT
theorem ItsO.app {base : Nat} {w : World} {v : Value} {l : List Itm} {ds : List Value} {x : Itm} (h : ItsO base w v l) (hx : ItP (fun b => base ≤ b ∧ v.ownBlock ≠ some b) w ds x) (hl : l.length ≤ 1000000) (hb : base ≤ w.heap.size) :
    ∃ a' c' w', (Builtin.append_ #[39, 39] 39 #[v, .slice (some ⟨w.heap.size, 0, none⟩) 1 1]).run Tryd.prog (w.alloc (.cells ds.toArray 24)) = .ok (.slice a' (l.length + 1) c') w' ∧ ItsO base w' (.slice a' (l.length + 1) c') (l ++ [x]) ∧ Gro w w' v (.slice a' (l.length + 1) c') := by
  obtain ⟨css, h1, h2, h3, h4⟩ := h
  obtain ⟨a', c', w', r1, r2, r3⟩ := own_appS (ty := 39) eIT7 (by decide) h2 ds hx.at.len hx.at.one (by unfold maxLen; omega) (by omega) hb
  have hup : ∀ {cs : List Value} {y : Itm}, ItP (fun b => base ≤ b ∧ v.ownBlock ≠ some b) w cs y → ItP (fun b => base ≤ b ∧ (Value.slice a' (l.length + 1) c').ownBlock ≠ some b) w' cs y := fun {cs y} hy =>
    (hy.mono (ok' := fun b => (base ≤ b ∧ (Value.slice a' (l.length + 1) c').ownBlock ≠ some b) ∧ v.ownBlock ≠ some b) (fun b hk hlt => ⟨⟨hk.1, fun e => by
      rcases r3.own b e with h | h
      · exact hk.2 h
      · omega⟩, hk.2⟩)).kept r3.gr (fun b hk => hk.2) |>.mono (fun b hk _ => hk.1)
  refine ⟨a', c', w', r1, ⟨css ++ [ds], by simp [h1], ?_, ?_, ?_⟩, r3⟩
  · rw [List.length_append, List.flatten_append]; simpa using r2
  · intro c hc
    rcases List.mem_append.1 hc with h | h
    · exact h3 c h
    · simp at h; subst h; exact hx.at.len
  · intro i c y hc hy
    by_cases hi : i < l.length
    · rw [List.getElem?_append_left (by omega)] at hc
      rw [List.getElem?_append_left hi] at hy
      exact hup (h4 i c y hc hy)
    · rw [List.getElem?_append_right (by omega)] at hc
      rw [List.getElem?_append_right (by omega)] at hy
      rw [h1] at hc
      match hk : i - l.length with
      | 0 => rw [hk] at hc hy; simp at hc hy; subst hc hy; exact hup hx
      | k + 1 => rw [hk] at hc; simp at hc
/-- The loop of Cut: j parts have been taken over. -/
def CutR (w : World) (x : Itm) (X : List Value) (j : Nat) (a' : Option Addr) (c' : Nat) (wr : World) : Prop :=
  Blk wr (w.heap.size + 1 + 1) 24 [.string (str (x.path.take 250)), .int .i64 x.kind, .int .i64 x.mode, .int .i64 x.time, .string (str (x.target.take 250)), .int .i64 x.size, .slice a' j c'] ∧ Blk wr w.heap.size 24 X ∧ Blk wr (w.heap.size + 1) 24 zIT.toList ∧ Below w.heap.size w wr ∧ wr.ownsRow (w.heap.size + 3) 65 33 (.slice a' j c') j ((x.parts.take j).map prtC).flatten ∧ w.heap.size + 3 ≤ wr.heap.size
theorem st_rowI {w : World} {q : Nat} {T : TypeId} {old : List Value} (h : Blk w q T old) (ho : old.length = 7) : ∀ cs : Array Value, cs.size = 7 → OneC cs → (stoOp 24 (.pointer (some ⟨q, 0, none⟩)) (.agg cs)).run Tryd.prog w = .ok () (w.setRow q cs) := by
  intro cs h6 h1
  unfold stoOp
  simp only [Instr.storeAt, Instr.sureAddr, Sem.run_bind, Sem.run_pure, Result.andThen]
  rw [run_storeVar_row w q T 24 old.toArray cs h (by rw [h6]; exact sizeIT) (by simp [ho, h6]) h1]
attribute [local go_sem ↓] h_ldPA h_bsPA h_ldIT h_stIT h_alIT
attribute [local go_sem] r_ldIT r_stIT r_alIT r_bsPA
set_option maxHeartbeats 4000000 in
theorem rcut_any {cs : List Value} {x : Itm} {w : World} (h : ItAt w cs x) : Calls Tryd.prog 9 #[.agg (List.toArray cs)] w fun e w' => ∃ ds, e = .returned (.agg (List.toArray ds)) ∧ ItP (fun b => w.heap.size ≤ b) w' ds (cutI x) ∧ Below w.heap.size w w' := by
  obtain ⟨a, c, rfl, p1, p2, hr, hok⟩ := h
  have h7 : (List.toArray (itC x a c)).size = 7 := rfl
  have hone : OneC (List.toArray (itC x a c)) := all_oneCell_toArray (ItAt.one (w := w) ⟨a, c, rfl, p1, p2, hr, hok⟩)
  have zs := zIT_size
  obtain ⟨X, hX⟩ : ∃ X, X = itC x a c := ⟨_, rfl⟩
  have hall : Hid (∀ W, W = ((w.alloc (.cells (List.toArray X) 24)).alloc (.cells zIT 24)).alloc (.cells (List.toArray X) 24) → Blk W w.heap.size 24 X ∧ Blk W (w.heap.size + 1) 24 zIT.toList ∧ Blk W (w.heap.size + 1 + 1) 24 X ∧ Below w.heap.size w W ∧ W.heap.size = w.heap.size + 3) := by
    rintro W rfl
    refine ⟨?_, ?_, ?_, (((Below.refl _ _).alloc (Nat.le_refl _) _).alloc (by simp) _).alloc (by simp; omega) _, by simp⟩
    · simpa using ((Blk.new w 24 (List.toArray X)).alloc (.cells zIT 24)).alloc (.cells (List.toArray X) 24)
    · have := (Blk.new (w.alloc (.cells (List.toArray X) 24)) 24 zIT).alloc (.cells (List.toArray X) 24)
      simpa using this
    · have := Blk.new ((w.alloc (.cells (List.toArray X) 24)).alloc (.cells zIT 24)) 24 (List.toArray X)
      simpa using this
  have hld : ∀ {w'}, Blk w' w.heap.size 24 X → (ldOp 24 (.pointer (some ⟨w.heap.size, 0, none⟩))).run Tryd.prog w' = .ok (.agg (List.toArray X)) w' := fun {w'} hb => ldOp_all (P := Tryd.prog) (ty := 24) hb Tryd.underlying24 rfl (by rw [hX]; exact sizeIT)
  have q0 := hld (w' := (w.alloc (.cells (List.toArray X) 24)).alloc (.cells zIT 24)) (by simpa using (Blk.new w 24 (List.toArray X)).alloc (.cells zIT 24))
  rw [← hX] at h7 hone ⊢
  have HX := Lib.hid hX
  clear hX
  go_enter Tryd.func9, Tryd.ntmps9
  go_upto_region 2 with (fail)
  generalize hW : ((w.alloc (.cells (List.toArray X) 24)).alloc (.cells zIT 24)).alloc (.cells (List.toArray X) 24) = W at *
  obtain ⟨A0, R0, B0, hb0, S0⟩ := hall.out W rfl
  clear hall hW q0
  have HXc : ∀ {w' q}, Blk w' q 24 X → w'.cell? ⟨q, 0, none⟩ = some (.string (str x.path)) ∧ w'.cell? ⟨q, 4, none⟩ = some (.string (str x.target)) := fun {w' q} hb => by
    rw [HX.out] at hb
    exact ⟨hb.cell rfl, hb.cell rfl⟩
  obtain ⟨a0, a4⟩ := HXc A0
  obtain ⟨b0, b4⟩ := HXc B0
  have hsh := fun (l : List UInt8) (w' : World) => short_any l 250 w' (by decide)
  have hgr : ∀ (W' : World) (i : Nat) (v : Value), Blk W' w.heap.size 24 X → Blk W' (w.heap.size + 1) 24 zIT.toList → Below w.heap.size w W' → Blk (W'.setCell ⟨w.heap.size + 1 + 1, i, none⟩ v) w.heap.size 24 X ∧ Blk (W'.setCell ⟨w.heap.size + 1 + 1, i, none⟩ v) (w.heap.size + 1) 24 zIT.toList ∧ Below w.heap.size w (W'.setCell ⟨w.heap.size + 1 + 1, i, none⟩ v) := fun W' i v h1 h2 h3 => by
    have hg := grown_set (⟨rfl, rfl, rfl, Nat.le_refl _, fun _ _ _ => rfl⟩ : W'.grownBy W' (some (w.heap.size + 1 + 1))) i v
    exact ⟨h1.grown hg (by omega), h2.grown hg (by omega), Below.grown h3 hg h3.size (fun k hk => by cases hk; omega)⟩
  obtain ⟨A1, R1, hb1⟩ := hgr W 0 (.string (str (x.path.take 250))) A0 R0 hb0
  obtain ⟨A3, R3, hb3⟩ := hgr _ 4 (.string (str (x.target.take 250))) A1 R1 hb1
  have B1 := B0.set 0 (.string (str (x.path.take 250)))
  have B3 := B1.set 4 (.string (str (x.target.take 250)))
  have f0 := B0.free 0
  have f4 := B1.free 4
  obtain ⟨c0, c4⟩ := HXc A1
  have HN : Hid (Blk ((W.setCell ⟨w.heap.size + 1 + 1, 0, none⟩ (.string (str (x.path.take 250)))).setCell ⟨w.heap.size + 1 + 1, 4, none⟩ (.string (str (x.target.take 250)))) (w.heap.size + 1 + 1) 24 ((X.set 0 (.string (str (x.path.take 250)))).set 4 (.string (str (x.target.take 250)))) ∧ Blk ((W.setCell ⟨w.heap.size + 1 + 1, 0, none⟩ (.string (str (x.path.take 250)))).setCell ⟨w.heap.size + 1 + 1, 4, none⟩ (.string (str (x.target.take 250)))) w.heap.size 24 X ∧ Blk ((W.setCell ⟨w.heap.size + 1 + 1, 0, none⟩ (.string (str (x.path.take 250)))).setCell ⟨w.heap.size + 1 + 1, 4, none⟩ (.string (str (x.target.take 250)))) (w.heap.size + 1) 24 zIT.toList ∧ Below w.heap.size w ((W.setCell ⟨w.heap.size + 1 + 1, 0, none⟩ (.string (str (x.path.take 250)))).setCell ⟨w.heap.size + 1 + 1, 4, none⟩ (.string (str (x.target.take 250))))) := ⟨B3, A3, R3, hb3⟩
  clear A0 R0 B0 A1 R1 B1 A3 R3 B3 hb1 hb3 hgr
  go_cut [] (fun wx => Blk wx (w.heap.size + 1 + 1) 24 ((X.set 0 (.string (str (x.path.take 250)))).set 4 (.string (str (x.target.take 250)))) ∧ Blk wx w.heap.size 24 X ∧ Blk wx (w.heap.size + 1) 24 zIT.toList ∧ Below w.heap.size w wx)
  case first =>
    go_wp2
    go_region_law ((first | (go_simp; go_at_call 24; refine (hsh _ _).mono ?_; rintro e wq ⟨rfl, rfl⟩)))
    all_goals
      go_wp2
      go_meet
      exact ⟨HN.out.1.drewN 1, HN.out.2.1.drewN 1, HN.out.2.2.1.drewN 1, Below.drewN HN.out.2.2.2 1⟩
  case rest =>
    clear HN a0 a4 b0 b4 f0 f4 c0 c4
    obtain ⟨Y0, A0, R0, hb0⟩ := hcut
    have hITR : ∀ {w' : World}, w'.heap.size = w'.heap.size := rfl
    have eY : (X.set 0 (.string (str (x.path.take 250)))).set 4 (.string (str (x.target.take 250))) = [.string (str (x.path.take 250)), .int .i64 x.kind, .int .i64 x.mode, .int .i64 x.time, .string (str (x.target.take 250)), .int .i64 x.size, .slice a x.parts.length c] := by rw [HX.out]; rfl
    rw [eY] at Y0
    have HA6 : ∀ {w'}, Blk w' w.heap.size 24 X → w'.cell? ⟨w.heap.size, 6, none⟩ = some (.slice a x.parts.length c) := fun {w'} hb => by
      rw [HX.out] at hb
      exact hb.cell rfl
    have y6 := Y0.free 6
    have z6 : wc.cell? ⟨w.heap.size + 1 + 1, 6, none⟩ = some (.slice a x.parts.length c) := Y0.cell rfl
    have hset := fun (W' : World) (v : Value) (h1 : Blk W' w.heap.size 24 X) (h2 : Blk W' (w.heap.size + 1) 24 zIT.toList) (h3 : Below w.heap.size w W') => (show Blk (W'.setCell ⟨w.heap.size + 1 + 1, 6, none⟩ v) w.heap.size 24 X ∧ Blk (W'.setCell ⟨w.heap.size + 1 + 1, 6, none⟩ v) (w.heap.size + 1) 24 zIT.toList ∧ Below w.heap.size w (W'.setCell ⟨w.heap.size + 1 + 1, 6, none⟩ v) from by
      have hg := grown_set (⟨rfl, rfl, rfl, Nat.le_refl _, fun _ _ _ => rfl⟩ : W'.grownBy W' (some (w.heap.size + 1 + 1))) 6 v
      exact ⟨h1.grown hg (by omega), h2.grown hg (by omega), Below.grown h3 hg h3.size (fun k hk => by cases hk; omega)⟩)
    have Y1 := Y0.set 6 (.slice none 0 0)
    obtain ⟨A1, R1, hb1⟩ := hset wc (.slice none 0 0) A0 R0 hb0
    have hI0 : Hid (CutR w x X 0 none 0 (wc.setCell ⟨w.heap.size + 1 + 1, 6, none⟩ (.slice none 0 0))) := by
      show CutR _ _ _ _ _ _ _
      exact ⟨Y1, A1, R1, hb1, World.ownsRow_nil _ _ _ _, by have := Y1.lt; omega⟩
    clear Y0 A0 R0 hb0 eY Y1 A1 R1 hb1 hITR
    go_wp2
    go_loopw [4] (fun i wr => ∃ (j : Nat) (a' : Option Addr) (c' : Nat), j ≤ x.parts.length ∧ j ≤ 70 ∧ i = .int .i64 j ∧ Hid (CutR w x X j a' c' wr)) (fun i _ => x.parts.length - (intOf i).toNat)
    case atStart => exact ⟨0, none, 0, Nat.zero_le _, Nat.zero_le _, rfl, hI0⟩
    case round =>
      clear hI0
      obtain ⟨j, a', c', hj, hj70, rfl, hI⟩ := hrel
      obtain ⟨Y, A, R, hb, hO, hsz⟩ := hI.out
      have a6 := HA6 A
      have y6 : wr.cell? ⟨w.heap.size + 1 + 1, 6, none⟩ = some (.slice a' j c') := Y.cell rfl
      have j0 : (0 : Int) ≤ (j : Int) := by omega
      have jb : IntKind.i64.wrap ((j : Int) + 1) = (j : Int) + 1 := IntWalk.i64_in _ (by omega)
      by_cases hlt : j < x.parts.length ∧ j < 70
      · have j1 : (j : Int) < (x.parts.length : Int) := by omega
        have j2 : (j : Int) < 70 := by omega
        have hpo := hok.parts _ (List.getElem_mem hlt.1)
        have hr2 := hr.below hb
        have s1 := hr2.elemSome (s := 33) (prts33I hok.parts) (by decide) (i := j) (by simpa using hlt.1)
        have q1 := ldOp_at (P := Tryd.prog) (ty := 65) (hr2.elem (s := 33) (prts33I hok.parts) (i := j) (c := prtC x.parts[j]) (by simp [hlt.1])) Tryd.underlying65 rfl (by rw [prtC_len hpo]; exact sizePA)
        have hT : Hid (((x.parts.take (j + 1)).map prtC).flatten = ((x.parts.take j).map prtC).flatten ++ prtC x.parts[j]) := by
          show _ = _
          rw [List.take_succ_eq_append_getElem hlt.1, List.map_append, List.flatten_append]; congr 1; simp
        have p33 : (List.toArray (prtC x.parts[j])).size = 33 := by simpa using prtC_len hpo
        obtain ⟨a2, c2, w2, happ, hO2, hG2⟩ := own_appS (ty := 22) ePA (by decide) hO (prtC x.parts[j]) (prtC_len hpo) (prtC_one _) (by unfold maxLen; omega) (by omega) hsz
        have hlo := own_lt hO
        have Y2 := hG2.blkB Y hlo (by omega)
        have A2 := hG2.blkB A hlo (by omega)
        have R2 := hG2.blkB R hlo (by omega)
        have hb2 := hb.trans (hG2.below hlo (old := w.heap.size) (by omega) (by omega))
        have fz := Y2.free 6
        have z6 : w2.cell? ⟨w.heap.size + 1 + 1, 6, none⟩ = some (.slice a' j c') := Y2.cell rfl
        have Y3 := Y2.set 6 (.slice a2 (j + 1) c2)
        obtain ⟨A3, R3, hb3⟩ := hset w2 (.slice a2 (j + 1) c2) A2 R2 hb2
        have hO3 := ownsRow_setCell_other hO2 (a := ⟨w.heap.size + 1 + 1, 6, none⟩) (fun e => by have := own_lt hO2 _ e; simp at this; omega) (.slice a2 (j + 1) c2)
        have hnext : Hid (CutR w x X (j + 1) a2 c2 (w2.setCell ⟨w.heap.size + 1 + 1, 6, none⟩ (.slice a2 (j + 1) c2))) := by
          show CutR _ _ _ _ _ _ _
          exact ⟨Y3, A3, R3, hb3, by rw [hT.out]; exact hO3, by have := hG2.size; simp; omega⟩
        generalize prtC x.parts[j] = E at *
        clear Y Y2 Y3 A A2 A3 R R2 R3 hb hb2 hb3 hO hO2 hO3 hT hI hr2 hpo
        go_wp2_with (at_builtin; refine wpList_append_run happ rfl rfl rfl rfl ?_)
        first
          | exact ⟨⟨j + 1, a2, c2, by omega, by omega, (by first | rfl | go_num | (congr 1; omega)), hnext⟩, by simp [intOf] <;> omega⟩
          | (refine ⟨?_, by simp [intOf] <;> omega⟩; (repeat apply Exists.intro); exact ⟨⟨j + 1, a2, c2, by omega, by omega, (by first | rfl | go_num | (congr 1; omega)), hnext⟩, rfl⟩)
      · have hfin : Hid (j = (x.parts.take 70).length ∧ x.parts.take j = x.parts.take 70) := by
          have e : j = (x.parts.take 70).length := by simp; omega
          refine ⟨e, ?_⟩
          by_cases h : x.parts.length ≤ 70
          · rw [List.take_of_length_le (l := x.parts) h, List.take_of_length_le]; omega
          · have : j = 70 := by omega
            rw [this]
        have hxo : ItmOk (cutI x) := ⟨hok.kind, hok.mode, hok.time, hok.size, by have := hok.path; show (x.path.take 250).length ≤ _; simp; omega, by have := hok.target; show (x.target.take 250).length ≤ _; simp; omega, fun p hp => hok.parts p (List.mem_of_mem_take hp)⟩
        obtain ⟨Z, hZ⟩ : ∃ Z : List Value, Z = [.string (str (x.path.take 250)), .int .i64 x.kind, .int .i64 x.mode, .int .i64 x.time, .string (str (x.target.take 250)), .int .i64 x.size, .slice a' j c'] := ⟨_, rfl⟩
        rw [← hZ] at Y
        have hZ7 : (List.toArray Z).size = 7 := by rw [hZ]; rfl
        have hZo : OneC (List.toArray Z) := all_oneCell_toArray (by rw [hZ]; intro u hu; simp at hu; rcases hu with rfl | rfl | rfl | rfl | rfl | rfl | rfl <;> rfl)
        have Z1 := ldOp_all (P := Tryd.prog) (ty := 24) Y Tryd.underlying24 rfl (by rw [hZ]; exact sizeIT)
        have hst := st_rowI R (by rfl) (List.toArray Z) hZ7 hZo
        have HB2 := setRow_blk R Z
        have HG2 := setRow_gr wr (w.heap.size + 1) (List.toArray Z)
        have HV : Hid (ItP (fun b => w.heap.size ≤ b) (wr.setRow (w.heap.size + 1) (List.toArray Z)) Z (cutI x) ∧ Below w.heap.size w (wr.setRow (w.heap.size + 1) (List.toArray Z))) := by
          obtain ⟨a9, c9, e9, k1, k2, k3, k4⟩ := owns_rowN hO (by decide)
          simp only [Value.slice.injEq] at e9
          obtain ⟨rfl, _, rfl⟩ := e9
          refine ⟨⟨a', c', ?_, ?_, k2, ?_, hxo, fun h0 => ?_⟩, Below.grown hb HG2 hb.size (fun k hk => by cases hk; omega)⟩
          · rw [hZ]; unfold itC strV cutI
            rw [hfin.out.1]
          · show (x.parts.take 70).length ≤ _
            rw [← hfin.out.1]; exact k1
          · show Row _ _ ((x.parts.take 70).map prtC).flatten
            rw [← hfin.out.2]
            exact k3.keptFar HG2 (fun h0 e => by
              have h1 := (k4 h0).2.1
              simp at e
              omega)
          · have h1 := (k4 (by
              rw [hfin.out.2]
              show 0 < ((cutI x).parts.map prtC).flatten.length
              rw [flatten_len (s := 33) (prts33I hxo.parts), List.length_map]
              have : 0 < (x.parts.take 70).length := h0
              omega)).2.1
            omega
        clear Y A R hO hI hfin hxo hb HG2 hr hZ hZo
        by_cases hj1 : j < x.parts.length
        · have j1 : (j : Int) < (x.parts.length : Int) := by omega
          have j2 : ¬ (j : Int) < 70 := by omega
          go_wp2
          exact bodyPost_ret (results_cell_row (fn := Tryd.f9) (by rfl) _ _ (w.heap.size + 1) 24 _ (0, 0) _ (by rfl) HB2 Tryd.underlying24 rfl (by rw [hZ7]; exact sizeIT)) rfl ⟨Z, rfl, HV.out⟩
        · have j1 : ¬ (j : Int) < (x.parts.length : Int) := by omega
          go_wp2
          exact bodyPost_ret (results_cell_row (fn := Tryd.f9) (by rfl) _ _ (w.heap.size + 1) 24 _ (0, 0) _ (by rfl) HB2 Tryd.underlying24 rfl (by rw [hZ7]; exact sizeIT)) rfl ⟨Z, rfl, HV.out⟩
end Go.Proofs.YtpchogicdnfggaaDoor
set_option maxRecDepth 20000
namespace Go.Proofs.YtpchogicdnfggaaDoor
open Go.RowKit Go.Hd
def fewIt (l : List Itm) (m : Nat) : List Itm := (l.take m).map cutI
theorem fewIt_len {l : List Itm} {j : Nat} (h : j ≤ l.length) : (fewIt l j).length = j := by unfold fewIt; simp; omega
attribute [local go_sem ↓] h_ldIT h_stIT h_alIT h_bsIT
attribute [local go_sem] r_ldIT r_stIT r_alIT r_bsIT
set_option maxHeartbeats 2000000 in
theorem fewI_any {a : Option Addr} {n c m : Nat} {l : List Itm} {w : World} (hn : n = l.length) (hI : ItsAt w a l) (hl : l.length ≤ maxLen) (hm : m ≤ 1000) :
    Calls Tryd.prog 17 #[.slice a n c, .int .i64 (m : Int)] w fun e w' => ∃ u, e = .returned u ∧ ItsO w.heap.size w' u (fewIt l m) ∧ Below w.heap.size w w' := by
  subst hn
  have HI := Lib.hid hI
  clear hI
  go_enter Tryd.func17, Tryd.ntmps17
  go_wp2
  go_loopw [5, 6] (fun u i wr => ∃ j : Nat, j ≤ l.length ∧ j ≤ m ∧ i = .int .i64 j ∧ Hid (ItsO w.heap.size wr u (fewIt l j)) ∧ Hid (Below w.heap.size w wr)) (fun _ i _ => l.length - (intOf i).toNat)
  case atStart => exact ⟨0, Nat.zero_le _, Nat.zero_le _, rfl, Lib.hid (ItsO.nil _ _), Lib.hid (Below.refl _ _)⟩
  case round =>
    obtain ⟨j, hj, hjm, rfl, hO, hb⟩ := hrel
    have j0 : (0 : Int) ≤ (j : Int) := by omega
    have jb : IntKind.i64.wrap ((j : Int) + 1) = (j : Int) + 1 := IntWalk.i64_in _ (by omega)
    by_cases hlt : j < l.length ∧ j < m
    · have j1 : (j : Int) < (l.length : Int) := by omega
      have j2 : (j : Int) < (m : Int) := by omega
      obtain ⟨cs, c7, hIt, s1, hcl⟩ := (HI.out.below hb.out).get hlt.1
      have q1 := ldOp_at (P := Tryd.prog) (ty := 24) (cs := cs) hcl Tryd.underlying24 rfl (by rw [c7]; exact sizeIT)
      have hT : Hid (fewIt l (j + 1) = fewIt l j ++ [cutI l[j]]) := by show _ = _; unfold fewIt; rw [List.take_succ_eq_append_getElem hlt.1, List.map_append]; rfl
      generalize l[j] = x at *
      clear hcl
      go_wp2_with fail
      refine (rcut_any hIt).mono ?_
      rintro e w2 ⟨ds, rfl, hD, hb2⟩
      have hlo := hO.out.lo
      have hO2 := hO.out.below hb2
      have hsz := hb2.size
      have hbs := hb.out.size
      obtain ⟨a', c', w3, happ, hO3, hG3⟩ := hO2.app (hD.mono (fun b hk hlt2 => ⟨by omega, fun e => by have := (hlo _ e).2; omega⟩)) (by rw [fewIt_len hj]; omega) (by omega)
      rw [fewIt_len hj] at happ hO3 hG3
      have hb3 := Lib.hid ((hb.out.trans (hb2.mono hbs)).trans (hG3.below (base := w.heap.size) (old := w.heap.size) (fun k hk => (hO2.lo k hk).1) (Nat.le_refl _) (by omega)))
      have hO4 : Hid (ItsO w.heap.size w3 (.slice a' (j + 1) c') (fewIt l (j + 1))) := by show ItsO _ _ _ _; rw [hT.out]; exact hO3
      have x7 : (List.toArray ds).size = 7 := hD.at.len
      clear hO2 hO3 hG3 hD hO hb hb2 hT hIt q1
      go_wp2_with (at_builtin; refine wpList_append_run happ rfl rfl rfl rfl ?_)
      first
        | exact ⟨⟨j + 1, by omega, by omega, (by first | rfl | go_num | (congr 1; omega)), hO4, hb3⟩, by simp [intOf] <;> omega⟩
        | (refine ⟨?_, by simp [intOf] <;> omega⟩; (repeat apply Exists.intro); exact ⟨⟨j + 1, by omega, by omega, (by first | rfl | go_num | (congr 1; omega)), hO4, hb3⟩, rfl⟩)
    · have hf : Hid (ItsO w.heap.size wr u5 (fewIt l m) ∧ Below w.heap.size w wr) := by
        refine ⟨?_, hb.out⟩
        have h := hO.out
        have e : l.take j = l.take m := by
          by_cases h : l.length ≤ m
          · rw [List.take_of_length_le h, List.take_of_length_le]; omega
          · have : j = m := by omega
            rw [this]
        unfold fewIt at h ⊢
        rw [e] at h; exact h
      clear hO hb
      by_cases hj1 : j < l.length
      · have j1 : (j : Int) < (l.length : Int) := by omega
        have j2 : ¬ (j : Int) < (m : Int) := by omega
        go_wp2
        go_ret
        exact ⟨_, rfl, hf.out⟩
      · have j1 : ¬ (j : Int) < (l.length : Int) := by omega
        go_wp2
        go_ret
        exact ⟨_, rfl, hf.out⟩
end Go.Proofs.YtpchogicdnfggaaDoor
set_option maxRecDepth 20000
namespace Go.Hd
theorem str_slice (l : List UInt8) (a b : Nat) : (str l).extract a b = str ((l.drop a).take (b - a)) := by
  rw [Lib.extract_eq, str_data]; rfl
theorem str_at (l : List UInt8) (i : Nat) (_h : i < (str l).size) (h2 : i < l.length) : (str l)[i] = l[i] := by
  show (str l).data[i] = _
  simp [str]
/-- The pieces laid so far. -/
structure PcI (s : List UInt8) (i a : Nat) (ks : List (List UInt8)) : Prop where
  mid : i ≤ s.length → a ≤ i ∧ cutP s = ks ++ cutP (s.drop a) ∧ 47 ∉ (s.drop a).take (i - a)
  fin : s.length < i → i = s.length + 1 ∧ ks = cutP s
theorem PcI.start (s : List UInt8) : PcI s 0 0 [] := ⟨fun _ => ⟨Nat.le_refl _, rfl, by simp⟩, fun h => absurd h (by omega)⟩
theorem PcI.last {s : List UInt8} {a : Nat} {ks : List (List UInt8)} (h : PcI s s.length a ks) : PcI s (s.length + 1) (s.length + 1) (ks ++ [(s.drop a).take (s.length - a)]) := by
  obtain ⟨h1, h2, h3⟩ := h.mid (Nat.le_refl _)
  refine ⟨fun h => absurd h (by omega), fun _ => ⟨rfl, ?_⟩⟩
  rw [h2, List.take_of_length_le (by simp), cutP_one]
  rw [List.take_of_length_le (by simp)] at h3; exact h3
theorem PcI.cut {s : List UInt8} {i a : Nat} {ks : List (List UInt8)} (h : PcI s i a ks) (hi : i < s.length) (hc : s[i] = 47) : PcI s (i + 1) (i + 1) (ks ++ [(s.drop a).take (i - a)]) := by
  obtain ⟨h1, h2, h3⟩ := h.mid (by omega)
  have e : s.drop a = (s.drop a).take (i - a) ++ 47 :: s.drop (i + 1) := by
    conv => lhs; rw [← List.take_append_drop (i - a) (s.drop a)]
    rw [List.drop_drop, show a + (i - a) = i by omega, List.drop_eq_getElem_cons hi, hc]
  refine ⟨fun _ => ⟨Nat.le_refl _, ?_, by simp⟩, fun h => absurd h (by omega)⟩
  rw [h2]
  conv => lhs; rw [e]
  rw [cutP_app _ _ h3]; simp
theorem PcI.next {s : List UInt8} {i a : Nat} {ks : List (List UInt8)} (h : PcI s i a ks) (hi : i < s.length) (hc : s[i] ≠ 47) : PcI s (i + 1) a ks := by
  obtain ⟨h1, h2, h3⟩ := h.mid (by omega)
  refine ⟨fun _ => ⟨by omega, h2, ?_⟩, fun h => absurd h (by omega)⟩
  have e : (s.drop a).take (i + 1 - a) = (s.drop a).take (i - a) ++ [s[i]] := by
    rw [show i + 1 - a = (i - a) + 1 by omega, List.take_succ_eq_append_getElem (by simp; omega)]
    congr 2
    rw [List.getElem_drop]; congr 1; omega
  rw [e, List.mem_append]
  rintro (h4 | h4)
  · exact h3 h4
  · exact hc (by simp at h4; exact h4.symm)
theorem PcI.len {s : List UInt8} {i a : Nat} {ks : List (List UInt8)} (h : PcI s i a ks) : ks.length ≤ s.length + 1 := by
  rcases Nat.lt_or_ge s.length i with h1 | h1
  · rw [(h.fin h1).2]; exact cutP_len s
  · have := congrArg List.length (h.mid h1).2.1
    have h2 := cutP_len s
    rw [List.length_append] at this; omega
end Go.Hd
namespace Go.Proofs.YtpchogicdnfggaaDoor
open Go.RowKit Go.Hd

set_option maxHeartbeats 2000000 in
theorem rpieces_any (s : List UInt8) (w : World) (hs : s.length ≤ 1000000) :
    Calls Tryd.prog 65 #[.string (str s)] w fun e w' => (∃ u, e = .returned u ∧ KsAt w.heap.size w' u (cutP s)) ∧ Below w.heap.size w w' := by
  have hz : (str s).size = s.length := str_size s
  have HS := Lib.hid hs
  clear hs
  go_enter Tryd.func65, Tryd.ntmps65
  go_wp2
  go_loopw [3, 4, 5] (fun u f i wr => ∃ (j a : Nat) (ks : List (List UInt8)), f = .int .i64 a ∧ i = .int .i64 j ∧ j ≤ s.length + 1 ∧ PcI s j a ks ∧ KsAt w.heap.size wr u ks ∧ Below w.heap.size w wr) (fun _ _ i _ => s.length + 1 - (intOf i).toNat)
  case atStart => exact ⟨0, 0, [], rfl, rfl, Nat.zero_le _, PcI.start s, World.ownsRow_nil _ _ _ _, Below.refl _ _⟩
  case round =>
    obtain ⟨j, a, ks, rfl, rfl, hj, hP, hk, hb⟩ := hrel
    have j0 : (0 : Int) ≤ (j : Int) := by omega
    have jb : IntKind.i64.wrap ((j : Int) + 1) = (j : Int) + 1 := IntWalk.i64_in _ (by have := HS.out; omega)
    have hkl := hP.len
    obtain ⟨ak, ck, rfl, _⟩ := owns_rowN hk (by decide)
    have hown := World.ownsRow.lt hk
    have HB := Lib.hid hb
    by_cases hle : j ≤ s.length
    · obtain ⟨haj, _, _⟩ := hP.mid hle
      have e1 := str_slice s a j
      have HAPP := own_app1 (ty := 27) eS hk (.string (str ((s.drop a).take (j - a)))) rfl (by unfold maxLen; have := HS.out; omega) (by have := HS.out; omega) hb.size
      have a0 : (0 : Int) ≤ (a : Int) := by omega
      have a1 : (a : Int) ≤ (j : Int) := by omega
      have j2 : (j : Int) ≤ (s.length : Int) := by omega
      obtain ⟨a', c', w', hrun, ho', hG⟩ := HAPP
      have hb' : Below w.heap.size w w' := hb.trans (hG.below (base := w.heap.size) (fun k hk => (hown k hk).1) (Nat.le_refl _) hb.size)
      by_cases hlt : j < s.length
      · have hne : ((j : Int) == (s.length : Int)) = false := by rw [beq_eq_false_iff_ne]; omega
        have j1 : (j : Int) < (s.length : Int) := by omega
        have hsz : j < (str s).size := by rw [hz]; exact hlt
        have hat := str_at s j hsz hlt
        by_cases hc : s[j] = 47
        · have t1 : ((((str s)[j]'hsz).toNat : Int) == 47) = true := (congrArg (fun c : UInt8 => ((c.toNat : Int) == 47)) hat).trans (by show ((s[j].toNat : Int) == 47) = true; rw [hc]; rfl)
          have hP' := hP.cut hlt hc
          have hK : KsAt w.heap.size w' (.slice a' (ks.length + 1) c') (ks ++ [(s.drop a).take (j - a)]) := by
            show World.ownsRow _ _ _ _ _ _ _
            simpa [strV] using ho'
          have HF := Lib.hid (And.intro hP' hK)
          clear hP hP' hK ho' hG hk hown hc hat hlt hle haj
          generalize (s.drop a).take (j - a) = p at *
          go_wp2_with (at_builtin; refine wpList_append_run hrun rfl rfl rfl rfl ?_)
          first
            | exact ⟨⟨j + 1, j + 1, _, (by first | rfl | go_num | (congr 1; omega)), (by first | rfl | go_num | (congr 1; omega)), by omega, HF.out.1, HF.out.2, hb'⟩, by simp [intOf] <;> omega⟩
            | (refine ⟨?_, by simp [intOf] <;> omega⟩; (repeat apply Exists.intro); exact ⟨⟨j + 1, j + 1, _, (by first | rfl | go_num | (congr 1; omega)), (by first | rfl | go_num | (congr 1; omega)), by omega, HF.out.1, HF.out.2, hb'⟩, rfl⟩)
        · have t1 : ((((str s)[j]'hsz).toNat : Int) == 47) = false := by
            refine (congrArg (fun c : UInt8 => ((c.toNat : Int) == 47)) hat).trans ?_
            show ((s[j].toNat : Int) == 47) = false
            rw [beq_eq_false_iff_ne]
            intro e
            exact hc (UInt8.toNat_inj.1 (by have h47 : (47 : UInt8).toNat = 47 := rfl; omega))
          have HF := Lib.hid (And.intro (hP.next hlt hc) hk)
          clear hP ho' hG hk hown hc hat hlt hle haj hrun
          go_wp2
          first
            | exact ⟨⟨j + 1, a, _, rfl, (by first | rfl | go_num | (congr 1; omega)), by omega, HF.out.1, HF.out.2, HB.out⟩, by simp [intOf] <;> omega⟩
            | (refine ⟨?_, by simp [intOf] <;> omega⟩; (repeat apply Exists.intro); exact ⟨⟨j + 1, a, _, rfl, (by first | rfl | go_num | (congr 1; omega)), by omega, HF.out.1, HF.out.2, HB.out⟩, rfl⟩)
      · obtain rfl : j = s.length := by omega
        have hP' := hP.last
        have hK : KsAt w.heap.size w' (.slice a' (ks.length + 1) c') (ks ++ [(s.drop a).take (s.length - a)]) := by
          show World.ownsRow _ _ _ _ _ _ _
          simpa [strV] using ho'
        have HF := Lib.hid (And.intro hP' hK)
        clear hP hP' hK ho' hG hk hown hlt hle haj
        generalize (s.drop a).take (s.length - a) = p at *
        go_wp2_with (at_builtin; refine wpList_append_run hrun rfl rfl rfl rfl ?_)
        first
          | exact ⟨⟨s.length + 1, s.length + 1, _, (by first | rfl | go_num | (congr 1; omega)), (by first | rfl | go_num | (congr 1; omega)), by omega, HF.out.1, HF.out.2, hb'⟩, by simp [intOf] <;> omega⟩
          | (refine ⟨?_, by simp [intOf] <;> omega⟩; (repeat apply Exists.intro); exact ⟨⟨s.length + 1, s.length + 1, _, (by first | rfl | go_num | (congr 1; omega)), (by first | rfl | go_num | (congr 1; omega)), by omega, HF.out.1, HF.out.2, hb'⟩, rfl⟩)
    · have hks := (hP.fin (by omega)).2
      have j1 : ¬ (j : Int) ≤ (s.length : Int) := by omega
      have HK : Hid (KsAt w.heap.size wr (.slice ak ks.length ck) (cutP s)) := by show KsAt _ _ _ _; rw [← hks]; exact hk
      clear hP hle hks hk hown
      go_wp2
      go_ret
      exact ⟨⟨_, rfl, HK.out⟩, hb⟩
end Go.Proofs.YtpchogicdnfggaaDoor
set_option maxRecDepth 20000
namespace Go.Hd
def partR (p : List UInt8) : Bool := p != [] && p != [46] && p != [46, 46] && decide (p.length ≤ 60)
theorem mem0_join : ∀ ps : List (List UInt8), (0 : UInt8) ∈ joinP ps ↔ ∃ p ∈ ps, (0 : UInt8) ∈ p
  | [] => by simp [joinP]
  | [p] => by simp [joinP]
  | p :: q :: r => by
    rw [joinP_cons p (by simp), List.mem_append, List.mem_cons, mem0_join (q :: r)]
    have : ¬ (0 : UInt8) = 47 := by decide
    simp [this]
theorem partB_R {p : List UInt8} (h : 47 ∉ p) : partB p = (partR p && !p.contains 0) := by
  unfold partB partR
  have e : p.contains 47 = false := by simpa using h
  rw [e]
  cases p != [] <;> cases p != [46] <;> cases p != [46, 46] <;> cases decide (p.length ≤ 60) <;> cases p.contains 0 <;> rfl
theorem check_is (s : List UInt8) : (checkF s == 0) = ((cutP s).all partR && !s.contains 0 && decide (s.length ≤ 200)) := by
  have h1 : (cutP s).all partB = ((cutP s).all partR && !s.contains 0) := by
    rw [Bool.eq_iff_iff]
    simp only [List.all_eq_true, Bool.and_eq_true, Bool.not_eq_true', List.contains_eq_mem, decide_eq_false_iff_not]
    have hz := mem0_join (cutP s)
    rw [joinP_cutP] at hz
    constructor
    · intro h
      refine ⟨fun p hp => ?_, fun h0 => ?_⟩
      · have := h p hp
        rw [partB_R (cutP_no s p hp)] at this
        simp only [Bool.and_eq_true] at this
        exact this.1
      · obtain ⟨p, hp, hp0⟩ := hz.1 h0
        have := h p hp
        rw [partB_R (cutP_no s p hp)] at this
        simp [hp0] at this
    · intro h p hp
      rw [partB_R (cutP_no s p hp), h.1 p hp]
      have : (0 : UInt8) ∉ p := fun h0 => h.2 (hz.2 ⟨p, hp, h0⟩)
      simp [this]
  unfold checkF
  by_cases h2 : 200 < s.length
  · rw [if_pos h2, decide_eq_false (by omega)]; simp
  · rw [if_neg h2, decide_eq_true (by omega), h1]
    cases (cutP s).all partR <;> cases s.contains 0 <;> rfl
end Go.Hd
namespace Go.Proofs.YtpchogicdnfggaaDoor
open Go.RowKit Go.Hd

set_option maxHeartbeats 2000000 in
theorem ris_any (s : List UInt8) (w : World) (hs : s.length ≤ 1000000) :
    Calls Tryd.prog 35 #[.string (str s)] w fun e w' => e = .returned (.bool (checkF s == 0)) ∧ Below w.heap.size w w' := by
  have hpc := rpieces_any s w hs
  have HI := Lib.hid (check_is s)
  have hcl : (cutP s).length ≤ 1000001 := Nat.le_trans (cutP_len s) (by omega)
  have hz : (str s).size = s.length := str_size s
  generalize (checkF s == 0) = R at *
  generalize cutP s = ps at *
  have HCL := Lib.hid (And.intro hcl hs)
  clear hcl hs
  go_enter Tryd.func35, Tryd.ntmps35
  go_wp2_with fail
  refine hpc.mono ?_
  rintro e w1 ⟨⟨u, rfl, hk⟩, hb⟩
  obtain ⟨ak, ck, rfl, _, _, hrow, _⟩ := owns_rowN hk (by decide)
  clear hpc hk
  go_upto_block 0 with (fail)
  go_cut [4] (fun u wx => ps.all partR = true ∧ wx = w1)
  case first =>
    go_wp2
    go_loopw [4] (fun i wr => ∃ j : Nat, j ≤ ps.length ∧ i = .int .i64 j ∧ (ps.take j).all partR = true ∧ Hid (wr = w1)) (fun i _ => ps.length - (intOf i).toNat)
    case atStart => exact ⟨0, Nat.zero_le _, rfl, rfl, Lib.hid rfl⟩
    case round =>
      obtain ⟨j, hj, rfl, hall, hwr⟩ := hrel
      have hwr := hwr.out
      subst hwr
      have j0 : (0 : Int) ≤ (j : Int) := by omega
      have jb : IntKind.i64.wrap ((j : Int) + 1) = (j : Int) + 1 := IntWalk.i64_in _ (by have := HCL.out.1; omega)
      by_cases hlt : j < ps.length
      · have q1 : wr.cell? ((hd ak).add j) = some (strV ps[j]) := hrow.cell (by simp [hlt])
        have s1 : ak.isSome = true := hrow.isSome (i := j) (by simp; omega)
        unfold strV at q1
        have j1 : (j : Int) < (ps.length : Int) := by omega
        have hA : Hid ((ps.take (j + 1)).all partR = partR ps[j]) := by
          show _ = _
          rw [List.take_succ_eq_append_getElem hlt, List.all_append, hall]; simp
        have hN : Hid (partR ps[j] = false → R = false) := fun h => by
          rw [HI.out]
          rcases Bool.eq_false_or_eq_true (ps.all partR) with h2 | h2
          · rw [List.all_eq_true.1 h2 _ (List.getElem_mem hlt)] at h; cases h
          · rw [h2]; rfl
        have ht := Lib.hid (str_toList ps[j])
        generalize ps[j] = p at *
        clear hall
        by_cases h1 : p = []
        · have t1 : (str p).toList.isEmpty = true := by rw [ht.out, h1]; rfl
          have t1b : (str p).toList = [] := by rw [ht.out, h1]
          have hR := Lib.hid (hN.out (by rw [h1]; rfl))
          clear h1 hN hA
          go_wp2
          go_ret
          exact ⟨by rw [hR.out]; rfl, hb⟩
        have t1 : (str p).toList.isEmpty = false := by rw [ht.out]; simpa using h1
        have t1b : ¬ (str p).toList = [] := by rw [ht.out]; exact h1
        by_cases h2 : p = [46]
        · have t2 : ((str p).toList == [46]) = true := by rw [ht.out, h2]; rfl
          have hR := Lib.hid (hN.out (by rw [h2]; rfl))
          clear h1 h2 hN hA
          go_wp2
          go_ret
          exact ⟨by rw [hR.out]; rfl, hb⟩
        have t2 : ((str p).toList == [46]) = false := by rw [ht.out]; simpa using h2
        by_cases h3 : p = [46, 46]
        · have t3 : ((str p).toList == [46, 46]) = true := by rw [ht.out, h3]; rfl
          have hR := Lib.hid (hN.out (by rw [h3]; rfl))
          clear h1 h2 h3 hN hA
          go_wp2
          go_ret
          exact ⟨by rw [hR.out]; rfl, hb⟩
        have t3 : ((str p).toList == [46, 46]) = false := by rw [ht.out]; simpa using h3
        have hP : Hid (partR p = decide (p.length ≤ 60)) := by
          show _ = _
          unfold partR
          have e1 : (p != []) = true := by simpa using h1
          have e2 : (p != [46]) = true := by simpa using h2
          have e3 : (p != [46, 46]) = true := by simpa using h3
          rw [e1, e2, e3]; rfl
        clear h1 h2 h3
        by_cases h4 : p.length ≤ 60
        · have t4 : ¬ (60 : Int) < (p.length : Int) := by omega
          have hA2 : Hid ((ps.take (j + 1)).all partR = true) := by show _ = _; rw [hA.out, hP.out, decide_eq_true h4]
          clear hN hA h4
          go_wp2
          first
            | exact ⟨⟨j + 1, by omega, (by first | rfl | go_num | (congr 1; omega)), hA2.out, (by first | exact Lib.hid rfl | exact Lib.hid trivial)⟩, by simp [intOf] <;> omega⟩
            | (refine ⟨?_, by simp [intOf] <;> omega⟩; (repeat apply Exists.intro); exact ⟨⟨j + 1, by omega, (by first | rfl | go_num | (congr 1; omega)), hA2.out, (by first | exact Lib.hid rfl | exact Lib.hid trivial)⟩, rfl⟩)
        · have t4 : (60 : Int) < (p.length : Int) := by omega
          have hR := Lib.hid (hN.out (by rw [hP.out, decide_eq_false h4]))
          clear hN hA h4
          go_wp2
          go_ret
          exact ⟨by rw [hR.out]; rfl, hb⟩
      · obtain rfl : j = ps.length := by omega
        rw [List.take_length] at hall
        go_wp2
        go_meet
        exact ⟨hall, rfl⟩
  case rest =>
    obtain ⟨hall, hwc⟩ := hcut
    subst hwc
    have HR : Hid (R = (!s.contains 0 && decide (s.length ≤ 200))) := by show _ = _; rw [HI.out, hall]; simp
    clear hall hrow HI
    go_wp2
    go_loopw [5] (fun i wr => ∃ j : Nat, j ≤ s.length ∧ i = .int .i64 j ∧ (s.take j).contains 0 = false ∧ Hid (wr = wc)) (fun i _ => s.length - (intOf i).toNat)
    case atStart => exact ⟨0, Nat.zero_le _, rfl, rfl, Lib.hid rfl⟩
    case round =>
      obtain ⟨j, hj, rfl, hall, hwr⟩ := hrel
      have hwr := hwr.out
      subst hwr
      have j0 : (0 : Int) ≤ (j : Int) := by omega
      have jb : IntKind.i64.wrap ((j : Int) + 1) = (j : Int) + 1 := IntWalk.i64_in _ (by have := HCL.out.2; omega)
      by_cases hlt : j < s.length
      · have j1 : (j : Int) < (s.length : Int) := by omega
        have hsz : j < (str s).size := by rw [hz]; exact hlt
        have hat := str_at s j hsz hlt
        have hT : Hid ((s.take (j + 1)).contains 0 = (s[j] == 0)) := by
          show _ = _
          rw [List.take_succ_eq_append_getElem hlt]
          simp only [List.contains_eq_mem, List.mem_append, List.mem_singleton] at hall ⊢
          rw [Bool.eq_iff_iff]
          simp only [decide_eq_false_iff_not] at hall
          simp [hall]
          exact eq_comm
        have hM : Hid (s[j] = 0 → s.contains 0 = true) := fun h => by
          simp only [List.contains_eq_mem, decide_eq_true_eq]
          rw [← h]; exact List.getElem_mem hlt
        by_cases hc : s[j] = 0
        · have t1 : ((((str s)[j]'hsz).toNat : Int) == 0) = true := (congrArg (fun c : UInt8 => ((c.toNat : Int) == 0)) hat).trans (by show ((s[j].toNat : Int) == 0) = true; rw [hc]; rfl)
          have hR : Hid (R = false) := by show _ = _; rw [HR.out, hM.out hc]; rfl
          clear hc hM hT hat hall hlt
          go_wp2
          go_ret
          exact ⟨by rw [hR.out]; rfl, hb⟩
        · have t1 : ((((str s)[j]'hsz).toNat : Int) == 0) = false := by
            refine (congrArg (fun c : UInt8 => ((c.toNat : Int) == 0)) hat).trans ?_
            show ((s[j].toNat : Int) == 0) = false
            rw [beq_eq_false_iff_ne]
            intro e
            exact hc (UInt8.toNat_inj.1 (by have h47 : (0 : UInt8).toNat = 0 := rfl; omega))
          have hA : Hid ((s.take (j + 1)).contains 0 = false) := by show _ = _; rw [hT.out]; simpa using hc
          clear hc hM hT hat hall
          go_wp2
          first
            | exact ⟨⟨j + 1, by omega, (by first | rfl | go_num | (congr 1; omega)), hA.out, (by first | exact Lib.hid rfl | exact Lib.hid trivial)⟩, by simp [intOf] <;> omega⟩
            | (refine ⟨?_, by simp [intOf] <;> omega⟩; (repeat apply Exists.intro); exact ⟨⟨j + 1, by omega, (by first | rfl | go_num | (congr 1; omega)), hA.out, (by first | exact Lib.hid rfl | exact Lib.hid trivial)⟩, rfl⟩)
      · obtain rfl : j = s.length := by omega
        rw [List.take_length] at hall
        have hR : Hid (R = decide (s.length ≤ 200)) := by show _ = _; rw [HR.out, hall]; rfl
        clear hall
        by_cases h2 : s.length ≤ 200
        · have i2 : (s.length : Int) ≤ 200 := by omega
          go_wp2
          go_ret
          exact ⟨by rw [hR.out, decide_eq_true h2]; rfl, hb⟩
        · have i2 : ¬ (s.length : Int) ≤ 200 := by omega
          go_wp2
          go_ret
          exact ⟨by rw [hR.out, decide_eq_false h2]; rfl, hb⟩
end Go.Proofs.YtpchogicdnfggaaDoor
