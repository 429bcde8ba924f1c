/- Layer 20: readSet. -/
import Derived.Test.YtcanlgcifnjfaaaDoorPt4
import Derived.Test.YtcanlgcifnjfaaaDoorPt5
import Derived.Deep.DeepCutAuto
set_option maxRecDepth 20000
namespace Go.Proofs.YtcanlgcifnjfaaaDoor
open Go.RowKit Go.Hd
attribute [local go_sem ↓] h_ldTK h_stTK h_alTK h_bdTK
attribute [local go_sem] r_alTK r_stTK

theorem results_c3 {P : Program} {fn : Func} {p t u : Tmp} {ty : TypeId} (h : fn.results = #[.cell p ty, .tmp t, .tmp u]) (tmps : Array Value) (w : World) (g : Nat) (tt : TypeId) (cs : Array Value) (fr : Nat × Nat) (d : TypeDesc)
    (hp : tmps.getD p undef = .pointer (some ⟨g, 0, none⟩)) (hg : w.heap[g]? = some (.cells cs tt fr))
    (hu : P.underlying ty = some d) (hd : (match d with | .struct _ | .array _ _ => true | _ => false) = true) (hi : (P.info? ty).map (·.size) = some cs.size) :
    (results fn tmps).run P w = .ok (.tuple #[.agg cs, tmps.getD t undef, tmps.getD u undef]) w := by
  have hp' : tmps[p]?.getD undef = .pointer (some ⟨g, 0, none⟩) := by simpa using hp
  simp [results, h, hp', asAddr, run_loadVar_row w g tt ty cs fr d hg hu hd hi]
theorem placesTK : ∀ fs, Tryd.prog.underlying 85 = some (.struct fs) → fs.toList.mapM (fun f => (Tryd.prog.info? f.type).map fun i => (f.offset, i.size)) = some [(0, 1), (1, 1), (2, 256)] := by
  intro fs h
  rw [Tryd.underlying85] at h
  injection h with h
  injection h with h
  subst h
  kernel_rfl
theorem r_bdK {k : Int} {w : World} : (bdOp 85 #[(0, .int .i64 k)]).run Tryd.prog w = .ok (.agg (Value.int .i64 k :: Value.int .u8 0 :: List.replicate 256 (Value.int .u8 0)).toArray) w := by
  refine run_build w 85 _ _ ?_
  rw [built_struct Tryd.underlying85 zeroTK (placesTK _ Tryd.underlying85)]
  rw [fill_cons (off := 0) (size := 1) (by rfl) (by rfl) (by show 0 + 1 ≤ zTK.size; rw [zTK_size]; decide), fill_nil]
  rfl
theorem bits0 (f : Nat → Bool) (h : ∀ j, f j = false) : bitsC f = List.replicate 256 (Value.int .u8 0) := by
  unfold bitsC
  have e : (fun j => Value.int .u8 (if f j = true then 1 else 0)) = fun _ => Value.int .u8 0 := by funext j; rw [h j]; rfl
  rw [e, List.map_const', List.length_range]
theorem r_bdSet {w : World} : (bdOp 85 #[(0, .int .i64 3)]).run Tryd.prog w = .ok (.agg (tokA (.set fun _ => false))) w := by
  rw [r_bdK, ← bits0 (fun _ => false) (fun _ => rfl)]; rfl
def SetP (w : World) (s : List UInt8) (e : Ending) (w' : World) : Prop :=
  (match setF s with
    | none => e = .returned (.tuple #[.agg (tokA (.set fun _ => false)), .int .i64 0, .bool false])
    | some (f, k) => e = .returned (.tuple #[.agg (tokA (.set f)), .int .i64 (k : Int), .bool true])) ∧ Below w.heap.size w w'
theorem fin_set {w w2 : World} {t : Tok} {old : List Value} (hr : Blk w2 w.heap.size 85 old) (ho : old.length = 258) (ht : Blk w2 (w.heap.size + 1) 85 (tokC t)) (hb : Below w.heap.size w w2) :
    (ldOp 85 (.pointer (some ⟨w.heap.size + 1, 0, none⟩))).run Tryd.prog w2 = .ok (.agg (tokA t)) w2 ∧ (stoOp 85 (.pointer (some ⟨w.heap.size, 0, none⟩)) (.agg (tokA t))).run Tryd.prog w2 = .ok () (w2.setRow w.heap.size (tokA t)) ∧
      (w2.setRow w.heap.size (tokA t)).heap[w.heap.size]? = some (.cells (tokA t) 85 (0, 0)) ∧ Below w.heap.size w (w2.setRow w.heap.size (tokA t)) := by
  refine ⟨ldOp_all ht Tryd.underlying85 rfl (by rw [tokC_len]; exact sizeTK), ?_, ?_, ?_⟩
  · unfold stoOp
    simp only [Instr.storeAt, Instr.sureAddr, Sem.run_bind, Sem.run_pure, Result.andThen]
    rw [run_storeVar_row w2 w.heap.size 85 85 old.toArray (tokA t) hr (by rw [tokA_size]; exact sizeTK) (by rw [tokA_size]; simpa using ho) (all_oneCell_toArray (tokC_one _))]
  · exact setRow_heap w2 w.heap.size old.toArray (tokA t) 85 (0, 0) hr
  · have hg : w2.grownBy (w2.setRow w.heap.size (tokA t)) (some w.heap.size) := ⟨rfl, rfl, rfl, by simp, fun k _ hk => setRow_other w2 w.heap.size k _ (fun e => hk (by rw [e]))⟩
    exact Below.grown hb hg hb.size (fun k hk => by cases hk; exact Nat.le_refl _)
set_option maxHeartbeats 4000000 in
theorem readSet_any (s : List UInt8) (w : World) (hs : s.length ≤ 1000000) :
    Calls Tryd.prog 62 #[.string (str s)] w (SetP w s) := by
  have hz : (str s).size = s.length := str_size s
  have zs := zTK_size
  have t2 := tokA_size (.set fun _ => false)
  have t3 : OneC (tokA (.set fun _ => false)) := all_oneCell_toArray (tokC_one _)
  have q1 := fun w' => r_bdSet (w := w')
  have hpf := fun w' => prefix_any s [33] w'
  have hF : Hid (frF s = if beginsB s [33] then 1 else 0) := rfl
  go_enter Tryd.func62, Tryd.ntmps62
  go_upto_region 2 with (fail)
  generalize hA : tokA (.set fun _ => false) = A0 at *
  have hres : Hid (Blk ((w.alloc (.cells zTK 85)).alloc (.cells A0 85)) w.heap.size 85 zTK.toList) := (Blk.new w 85 zTK).alloc _
  have htok : Hid (Blk ((w.alloc (.cells zTK 85)).alloc (.cells A0 85)) (w.heap.size + 1) 85 (tokC (.set fun _ => false))) := by
    show Blk _ _ _ _
    have := Blk.new (w.alloc (.cells zTK 85)) 85 A0
    rw [← hA] at this ⊢
    rw [show (tokA (.set fun _ => false)).toList = tokC (.set fun _ => false) from rfl] at this
    simpa using this
  have hb0 : Hid (Below w.heap.size w ((w.alloc (.cells zTK 85)).alloc (.cells A0 85))) := ((Below.refl _ _).alloc (Nat.le_refl _) _).alloc (by simp) _
  generalize (w.alloc (.cells zTK 85)).alloc (.cells A0 85) = W at *
  go_wp2_with fail
  refine (hpf _).mono ?_
  rintro e w1 ⟨rfl, hw⟩
  subst hw
  go_upto_if 14 with (fail)
  go_cut [6] (fun v wx => v = .int .i64 (frF s : Int) ∧ wx = W)
  case first =>
    rcases Bool.eq_false_or_eq_true (beginsB s [33]) with h | h
    · have hF1 : Hid (frF s = 1) := by show _ = _; rw [hF.out, h]; rfl
      rw [h]
      clear h hF
      go_wp2
      go_meet
      exact ⟨by rw [hF1.out] <;> rfl, rfl⟩
    · have hF1 : Hid (frF s = 0) := by show _ = _; rw [hF.out, h]; rfl
      rw [h]
      clear h hF
      go_wp2
      go_meet
      exact ⟨by rw [hF1.out] <;> rfl, rfl⟩
  case rest =>
    obtain ⟨rfl, hwc⟩ := hcut
    subst hwc
    have hfr : frF s ≤ 1 := by rw [hF.out]; split <;> omega
    have hSF : Hid (setF s = if s.length ≤ frF s + 1 then none else if Lib.indexByte (s.drop (frF s + 1)) 93 < 0 then none else some (fun x => amongB ((s.drop (frF s)).take ((Lib.indexByte (s.drop (frF s + 1)) 93).toNat + 1)) x != (frF s == 1), (Lib.indexByte (s.drop (frF s + 1)) 93).toNat + frF s + 2)) := rfl
    have hix := fun w' => Tryd.strings_IndexByte (str (s.drop (frF s + 1))) 93 w'
    have hig := Lib.indexByte_ge (s.drop (frF s + 1)) 93
    have his : ∀ o : Nat, Lib.indexByte (s.drop (frF s + 1)) 93 = (o : Int) → o + frF s + 1 < s.length := fun o ho => by
      have h := (Lib.indexByte_some ho).1
      rw [List.getElem?_drop] at h
      have := (List.getElem?_eq_some_iff.1 h).1
      omega
    have e93 : (93 : Int).toNat.toUInt8 = 93 := rfl
    rw [str_data, e93] at hix
    clear hF hpf
    generalize hix0 : Lib.indexByte (s.drop (frF s + 1)) 93 = ix at *
    clear hix0
    have e1 := str_drop s (frF s + 1) s.length (Nat.le_refl _)
    generalize hfr0 : frF s = fr at *
    have f0 : (0 : Int) ≤ (fr : Int) := by omega
    have f1 : IntKind.i64.wrap ((fr : Int) + 1) = (fr : Int) + 1 := IntWalk.i64_in _ (by omega)
    have f2 : (0 : Int) ≤ (fr : Int) + 1 := by omega
    have HT2 := Lib.hid (And.intro t2 t3)
    clear t2 t3
    by_cases hsh : s.length ≤ fr + 1
    · have hR : Hid (setF s = none) := by show _ = _; rw [hSF.out, if_pos hsh]
      have i1 : (s.length : Int) ≤ (fr : Int) + 1 := by omega
      clear hix hSF his
      obtain ⟨l1, l2, l3, l4⟩ := fin_set hres.out (by rw [Array.length_toList]; exact zs) htok.out hb0.out
      rw [hA] at l1 l2 l3 l4
      go_wp2
      refine bodyPost_ret (results_c3 (fn := Tryd.f62) (by rfl) _ _ w.heap.size 85 _ (0, 0) _ (by rfl) l3 Tryd.underlying85 rfl (by rw [← hA, tokA_size]; exact sizeTK)) rfl ⟨?_, l4⟩
      rw [hR.out, ← hA]
      rfl
    · have i1 : ¬ (s.length : Int) ≤ (fr : Int) + 1 := by omega
      have i2 : (fr : Int) + 1 ≤ (s.length : Int) := by omega
      go_wp2_with fail
      refine (hix _).mono ?_
      rintro e w1 ⟨rfl, hw⟩
      subst hw
      clear hix
      by_cases hneg : ix < 0
      · have hR : Hid (setF s = none) := by show _ = _; rw [hSF.out, if_neg hsh, if_pos hneg]
        clear hSF his
        obtain ⟨l1, l2, l3, l4⟩ := fin_set hres.out (by rw [Array.length_toList]; exact zs) htok.out hb0.out
        rw [hA] at l1 l2 l3 l4
        go_wp2
        refine bodyPost_ret (results_c3 (fn := Tryd.f62) (by rfl) _ _ w.heap.size 85 _ (0, 0) _ (by rfl) l3 Tryd.underlying85 rfl (by rw [← hA, tokA_size]; exact sizeTK)) rfl ⟨?_, l4⟩
        rw [hR.out, ← hA]
        rfl
      · obtain ⟨o, rfl⟩ : ∃ o : Nat, ix = (o : Int) := ⟨ix.toNat, by omega⟩
        have ho := his o rfl
        have hR : Hid (setF s = some (fun x => amongB ((s.drop fr).take (o + 1)) x != (fr == 1), o + fr + 2)) := by show _ = _; rw [hSF.out, if_neg hsh, if_neg hneg]; rfl
        have e2 : (str s).extract fr (o + fr + 1) = str ((s.drop fr).take (o + 1)) := by
          have := str_slice s fr (o + fr + 1)
          rw [this, show o + fr + 1 - fr = o + 1 by omega]
        have o0 : ¬ (o : Int) < 0 := by omega
        have o1 : IntKind.i64.wrap ((o : Int) + ((fr : Int) + 1)) = ((o + fr + 1 : Nat) : Int) := by rw [IntWalk.i64_in _ (by omega)]; omega
        have o2 : (fr : Int) ≤ ((o + fr + 1 : Nat) : Int) := by omega
        have o3 : ((o + fr + 1 : Nat) : Int) ≤ (s.length : Int) := by omega
        have hbl : ((s.drop fr).take (o + 1)).length = o + 1 := by simp; omega
        have o4 : (0 : Int) ≤ ((o + fr + 1 : Nat) : Int) := by omega
        have hOE := Lib.hid (show o + fr + 1 < 2000000 by omega)
        clear hSF his hsh hneg i1 i2
        generalize (s.drop fr).take (o + 1) = body at *
        generalize hend : o + fr + 1 = en at *
        go_upto_region 12 with (fail)
        have hb0' := hb0.out
        have hzz : (str body).size = body.length := str_size body
        have hwl : w.heap.size + 1 < w1.heap.size := htok.out.lt
        go_wp2
        go_loopw [9] (fun i wr => ∃ (j : Nat) (g : Nat → Bool), i = .int .i64 j ∧ j ≤ body.length ∧ Hid (Blk wr (w.heap.size + 1) 85 (tokC (.set g))) ∧ Hid (w1.grownBy wr (some (w.heap.size + 1))) ∧ Hid (∀ x, x < 256 → (g x || amongB (body.drop j) x) = amongB body x)) (fun i _ => body.length - (intOf i).toNat)
        case atStart => exact ⟨0, fun _ => false, rfl, Nat.zero_le _, htok, Lib.hid (Grown.refl _ _), Lib.hid (fun x _ => by simp)⟩
        case round =>
          obtain ⟨j, g, rfl, hj, hB, hG, hM⟩ := hrel
          have j0 : (0 : Int) ≤ (j : Int) := by omega
          have j1 : IntKind.i64.wrap ((j : Int) + 1) = (j : Int) + 1 := IntWalk.i64_in _ (by have := hOE.out; omega)
          have j2 : IntKind.i64.wrap ((j : Int) + 2) = (j : Int) + 2 := IntWalk.i64_in _ (by have := hOE.out; omega)
          have j3 : IntKind.i64.wrap ((j : Int) + 3) = (j : Int) + 3 := IntWalk.i64_in _ (by have := hOE.out; omega)
          by_cases hlt : j < body.length
          · have i1 : (j : Int) < (body.length : Int) := by omega
            have hsz : j < (str body).size := by rw [hzz]; exact hlt
            have hat := Lib.hid (str_at body j hsz hlt)
            have ONE : ∀ V, Hid (Blk V (w.heap.size + 1) 85 (tokC (.set g))) → ∀ x : Nat, x < 256 → V.cell? ⟨w.heap.size + 1, 2 + x, none⟩ = some (.int .u8 (if g x then 1 else 0)) ∧ V.frozen? ⟨w.heap.size + 1, 2 + x, none⟩ = false := fun V h x hx => ⟨h.out.cell (by have := tokA_b (.set g) hx; exact (Array.getElem?_toList ..).trans this), h.out.free _⟩
            have SETB : ∀ V, Hid (Blk V (w.heap.size + 1) 85 (tokC (.set g))) → ∀ x : Nat, x < 256 → Hid (Blk (V.setCell ⟨w.heap.size + 1, 2 + x, none⟩ (.int .u8 1)) (w.heap.size + 1) 85 (tokC (.set (fun j => if j = x then true else g j)))) := fun V h x hx => by
              have := h.out.set (2 + x) (.int .u8 (if true then 1 else 0))
              rw [tokC_set g hx true] at this
              exact this
            have hD : Hid (body.drop j = (body[j]'hlt) :: body.drop (j + 1)) := List.drop_eq_getElem_cons hlt
            have d0 : (0 : Int) ≤ ((((str body)[j]'hsz).toNat : Nat) : Int) := by omega
            have d1 : ((((str body)[j]'hsz).toNat : Nat) : Int) < 256 := by have := ((str body)[j]'hsz).toNat_lt; omega
            obtain ⟨q1, q2⟩ := ONE _ hB ((str body)[j]'hsz).toNat ((str body)[j]'hsz).toNat_lt
            have HS := SETB _ hB ((str body)[j]'hsz).toNat ((str body)[j]'hsz).toNat_lt
            have HG := Lib.hid (Grown.set hG.out (2 + ((str body)[j]'hsz).toNat) (.int .u8 1))
            have hatn : ((str body)[j]'hsz).toNat = (body[j]'hlt).toNat := congrArg (fun c : UInt8 => c.toNat) hat.out
            have NEXT0 : ∀ n, n = (body[j]'hlt).toNat → (∀ b r', body.drop (j + 1) ≠ 45 :: b :: r') → ∀ x, x < 256 → (((if x = n then true else g x) || amongB (body.drop (j + 1)) x) = amongB body x) := fun n hn h x hx => by
              rw [← hM.out x hx, hD.out, amongB_one h, hn]
              by_cases hxe : x = (body[j]'hlt).toNat
              · rw [if_pos hxe, hxe]; simp
              · rw [if_neg hxe, show ((body[j]'hlt).toNat == x) = false from beq_eq_false_iff_ne.2 (fun e => hxe e.symm), Bool.false_or]
            have NEXT : Hid ((∀ b r', body.drop (j + 1) ≠ 45 :: b :: r') → ∀ x, x < 256 → (((if x = ((str body)[j]'hsz).toNat then true else g x) || amongB (body.drop (j + 1)) x) = amongB body x)) := NEXT0 _ hatn
            clear NEXT0 hatn
            by_cases h2 : j + 2 < body.length
            · have i2 : (j : Int) + 2 < (body.length : Int) := by omega
              have hsz1 : j + 1 < (str body).size := by rw [hzz]; omega
              have hsz2 : j + 2 < (str body).size := by rw [hzz]; omega
              have hat1 := Lib.hid (str_at body (j + 1) hsz1 (by omega))
              have hat2 := Lib.hid (str_at body (j + 2) hsz2 h2)
              by_cases h45 : body[j + 1]'(show j + 1 < body.length by omega) = 45
              · have t1 : ((((str body)[j + 1]'hsz1).toNat : Int) == 45) = true := (congrArg (fun c : UInt8 => ((c.toNat : Int) == 45)) hat1.out).trans (by show (((body[j + 1]'(show j + 1 < body.length by omega)).toNat : Int) == 45) = true; rw [h45]; rfl)
                have hatn : ((str body)[j]'hsz).toNat = (body[j]'hlt).toNat := congrArg (fun c : UInt8 => c.toNat) hat.out
                have hatn2 : ((str body)[j + 2]'hsz2).toNat = (body[j + 2]'h2).toNat := congrArg (fun c : UInt8 => c.toNat) hat2.out
                have hL1 : ((str body)[j]'hsz).toNat < 256 := ((str body)[j]'hsz).toNat_lt
                have hL2 : ((str body)[j + 2]'hsz2).toNat < 256 := ((str body)[j + 2]'hsz2).toNat_lt
                have HR0 : ∀ A B, A = (body[j]'hlt).toNat → B = (body[j + 2]'h2).toNat → ∀ (h : Nat → Bool) (c : Nat), (∀ x, h x = (g x || (decide (A ≤ x) && decide (x < c)))) → ¬ c ≤ B → (c ≤ B + 1 ∨ c = A) → A ≤ c → ∀ x, x < 256 → (h x || amongB (body.drop (j + 3)) x) = amongB body x := fun A B hA hB h c hh hc1 hc2 hc3 x hx => by
                  have e : body.drop j = (body[j]'hlt) :: 45 :: (body[j + 2]'h2) :: body.drop (j + 3) := by
                    rw [hD.out, List.drop_eq_getElem_cons (show j + 1 < body.length by omega), h45, List.drop_eq_getElem_cons (show j + 1 + 1 < body.length by omega)]
                  rw [← hM.out x hx, e, amongB_range, hh x, ← hA, ← hB, Bool.or_assoc]
                  congr 2
                  rw [Bool.eq_iff_iff]
                  simp only [Bool.and_eq_true, decide_eq_true_eq]
                  omega
                have HR := Lib.hid (HR0 _ _ hatn hatn2)
                clear q1 q2 HS HG NEXT hatn hatn2 HR0 hM hD hat hat1 hat2
                go_wp2
                go_loopw [10] (fun v wr => ∃ (c : Nat) (h : Nat → Bool), v = .int .i64 c ∧ ((str body)[j]'hsz).toNat ≤ c ∧ (c ≤ ((str body)[j + 2]'hsz2).toNat + 1 ∨ c = ((str body)[j]'hsz).toNat) ∧ Hid (Blk wr (w.heap.size + 1) 85 (tokC (.set h))) ∧ Hid (w1.grownBy wr (some (w.heap.size + 1))) ∧ Hid (∀ x, h x = (g x || (decide (((str body)[j]'hsz).toNat ≤ x) && decide (x < c))))) (fun v _ => 300 - (intOf v).toNat)
                case atStart => exact ⟨((str body)[j]'hsz).toNat, g, rfl, Nat.le_refl _, .inr rfl, hB, hG, Lib.hid (fun x => by
                  rw [show (decide (((str body)[j]'hsz).toNat ≤ x) && decide (x < ((str body)[j]'hsz).toNat)) = false by rw [Bool.and_eq_false_iff, decide_eq_false_iff_not, decide_eq_false_iff_not]; omega, Bool.or_false])⟩
                case round =>
                  obtain ⟨c, h, rfl, hc1, hc2, hB2, hG2, hH⟩ := hrel
                  have c0 : (0 : Int) ≤ (c : Int) := by omega
                  by_cases hcb : c ≤ ((str body)[j + 2]'hsz2).toNat
                  · have ic : (c : Int) ≤ ((((str body)[j + 2]'hsz2).toNat : Nat) : Int) := by omega
                    have hc256 : c < 256 := by omega
                    have ic2 : (c : Int) < 256 := by omega
                    have cw : IntKind.i64.wrap ((c : Int) + 1) = (c : Int) + 1 := IntWalk.i64_in _ (by omega)
                    have q1 : wr.cell? ⟨w.heap.size + 1, 2 + c, none⟩ = some (.int .u8 (if h c then 1 else 0)) := hB2.out.cell (by have := tokA_b (.set h) hc256; exact (Array.getElem?_toList ..).trans this)
                    have q2 : wr.frozen? ⟨w.heap.size + 1, 2 + c, none⟩ = false := hB2.out.free _
                    have HS : Hid (Blk (wr.setCell ⟨w.heap.size + 1, 2 + c, none⟩ (.int .u8 1)) (w.heap.size + 1) 85 (tokC (.set (fun j => if j = c then true else h j)))) := by
                      have := hB2.out.set (2 + c) (.int .u8 (if true then 1 else 0))
                      rw [tokC_set h hc256 true] at this
                      exact this
                    have HG := Lib.hid (Grown.set hG2.out (2 + c) (.int .u8 1))
                    have HH : Hid (∀ x, (if x = c then true else h x) = (g x || (decide (((str body)[j]'hsz).toNat ≤ x) && decide (x < c + 1)))) := fun x => by
                      by_cases hxc : x = c
                      · rw [if_pos hxc, show (decide (((str body)[j]'hsz).toNat ≤ x) && decide (x < c + 1)) = true by rw [Bool.and_eq_true, decide_eq_true_eq, decide_eq_true_eq]; omega, Bool.or_true]
                      · rw [if_neg hxc, hH.out x]
                        congr 2
                        rw [decide_eq_decide]; omega
                    have m1 : c + 1 ≤ ((str body)[j + 2]'hsz2).toNat + 1 := by omega
                    have m2 : ((str body)[j]'hsz).toNat ≤ c + 1 := by omega
                    clear hH hB2 hG2 ONE SETB
                    go_wp2
                    first
                      | exact ⟨⟨c + 1, _, (by first | rfl | go_num | (congr 1; omega)), m2, .inl m1, HS, HG, HH⟩, by simp [intOf] <;> omega⟩
                      | (refine ⟨?_, by simp [intOf] <;> omega⟩; (repeat apply Exists.intro); exact ⟨⟨c + 1, _, (by first | rfl | go_num | (congr 1; omega)), m2, .inl m1, HS, HG, HH⟩, rfl⟩)
                  · have ic : ¬ (c : Int) ≤ ((((str body)[j + 2]'hsz2).toNat : Nat) : Int) := by omega
                    have HM := Lib.hid (HR.out h c hH.out hcb hc2 hc1)
                    clear hH HR ONE SETB
                    go_wp2
                    first
                      | exact ⟨⟨j + 3, h, (by first | rfl | go_num | (congr 1; omega)), by omega, hB2, hG2, HM⟩, by simp [intOf] <;> omega⟩
                      | (refine ⟨?_, by simp [intOf] <;> omega⟩; (repeat apply Exists.intro); exact ⟨⟨j + 3, h, (by first | rfl | go_num | (congr 1; omega)), by omega, hB2, hG2, HM⟩, rfl⟩)
              · have t1 : ((((str body)[j + 1]'hsz1).toNat : Int) == 45) = false := by
                  refine (congrArg (fun c : UInt8 => ((c.toNat : Int) == 45)) hat1.out).trans ?_
                  show (((body[j + 1]'(show j + 1 < body.length by omega)).toNat : Int) == 45) = false
                  rw [beq_eq_false_iff_ne]
                  intro e
                  exact h45 (UInt8.toNat_inj.1 (by have h47 : (45 : UInt8).toNat = 45 := rfl; omega))
                have hM2 := Lib.hid (NEXT.out (fun b r' e => h45 (by
                  have h := congrArg (fun l => l[0]?) e
                  simp only [List.getElem?_drop, List.getElem?_cons_zero, Nat.add_zero] at h
                  exact (List.getElem?_eq_some_iff.1 h).2)))
                clear NEXT hM hD ONE SETB
                go_wp2
                first
                  | exact ⟨⟨j + 1, _, (by first | rfl | go_num | (congr 1; omega)), by omega, HS, HG, hM2⟩, by simp [intOf] <;> omega⟩
                  | (refine ⟨?_, by simp [intOf] <;> omega⟩; (repeat apply Exists.intro); exact ⟨⟨j + 1, _, (by first | rfl | go_num | (congr 1; omega)), by omega, HS, HG, hM2⟩, rfl⟩)
            · have i2 : ¬ (j : Int) + 2 < (body.length : Int) := by omega
              have hM2 := Lib.hid (NEXT.out (fun b r' e => h2 (by
                have h := congrArg List.length e
                simp at h
                omega)))
              clear NEXT hM hD ONE SETB
              go_wp2
              first
                | exact ⟨⟨j + 1, _, (by first | rfl | go_num | (congr 1; omega)), by omega, HS, HG, hM2⟩, by simp [intOf] <;> omega⟩
                | (refine ⟨?_, by simp [intOf] <;> omega⟩; (repeat apply Exists.intro); exact ⟨⟨j + 1, _, (by first | rfl | go_num | (congr 1; omega)), by omega, HS, HG, hM2⟩, rfl⟩)
          · obtain rfl : j = body.length := by omega
            have hg : ∀ x, x < 256 → g x = amongB body x := fun x hx => by
              have := hM.out x hx
              rw [List.drop_length] at this
              rw [← this]; simp [amongB]
            have en1 : IntKind.i64.wrap ((en : Int) + 1) = (en : Int) + 1 := IntWalk.i64_in _ (by have := hOE.out; omega)
            have HRES := Lib.hid (hres.out.grown hG.out (by omega))
            have HBB := Lib.hid (Gr.ofGrown hb0' hG.out (by omega))
            have i1 : ¬ (body.length : Int) < (body.length : Int) := by omega
            clear hM htok hb0
            rcases (by omega : fr = 0 ∨ fr = 1) with rfl | rfl
            · obtain ⟨l1, l2, l3, l4⟩ := fin_set (t := .set (fun x => amongB body x != false)) HRES.out (by rw [Array.length_toList]; exact zs) (by rw [← tokC_congr (f := g) (fun x hx => by rw [hg x hx]; cases amongB body x <;> rfl)]; exact hB.out) HBB.out
              have t2 := tokA_size (.set (fun x => amongB body x != false))
              have hRR : SetP w s (.returned (.tuple #[.agg (tokA (.set (fun x => amongB body x != false))), .int .i64 ((en : Int) + 1), .bool true])) (wr.setRow w.heap.size (tokA (.set (fun x => amongB body x != false)))) := by
                unfold SetP
                rw [hR.out]
                refine ⟨?_, l4⟩
                show _ = _
                rw [← hend]
                rfl
              generalize tokA (.set (fun x => amongB body x != false)) = AR at *
              clear hR hg hB HBB HRES hres hb0' hG
              go_wp2
              refine bodyPost_ret (results_c3 (fn := Tryd.f62) (by rfl) _ _ w.heap.size 85 _ (0, 0) _ (by rfl) l3 Tryd.underlying85 rfl (by rw [t2]; exact sizeTK)) rfl ?_
              exact hRR
            · clear HRES HBB
              go_wp2
              go_loopw [80] (fun v wr => ∃ (c : Nat) (h : Nat → Bool), v = .int .i64 c ∧ c ≤ 256 ∧ Hid (Blk wr (w.heap.size + 1) 85 (tokC (.set h))) ∧ Hid (w1.grownBy wr (some (w.heap.size + 1))) ∧ Hid (∀ x, h x = if x < c then !(g x) else g x)) (fun v _ => 256 - (intOf v).toNat)
              case atStart => exact ⟨0, g, rfl, by omega, hB, hG, Lib.hid (fun x => by simp)⟩
              case round =>
                obtain ⟨c, h, rfl, hc, hB2, hG2, hH⟩ := hrel
                clear hB hG
                have c0 : (0 : Int) ≤ (c : Int) := by omega
                by_cases hcb : c < 256
                · have ic2 : (c : Int) < 256 := by omega
                  have cw : IntKind.i64.wrap ((c : Int) + 1) = (c : Int) + 1 := IntWalk.i64_in _ (by omega)
                  have q1 : wr.cell? ⟨w.heap.size + 1, 2 + c, none⟩ = some (.int .u8 (if h c then 1 else 0)) := hB2.out.cell (by have := tokA_b (.set h) hcb; exact (Array.getElem?_toList ..).trans this)
                  have q2 : wr.frozen? ⟨w.heap.size + 1, 2 + c, none⟩ = false := hB2.out.free _
                  have HS : ∀ b : Bool, Hid (Blk (wr.setCell ⟨w.heap.size + 1, 2 + c, none⟩ (.int .u8 (if b then 1 else 0))) (w.heap.size + 1) 85 (tokC (.set (fun j => if j = c then b else h j)))) := fun b => by
                    have := hB2.out.set (2 + c) (.int .u8 (if b then 1 else 0))
                    rw [tokC_set h hcb b] at this
                    exact this
                  have HG := fun v => Lib.hid (Grown.set hG2.out (2 + c) v)
                  have hhc : h c = g c := by have := hH.out c; rwa [if_neg (by omega)] at this
                  have HH : Hid (∀ x, (if x = c then !(h c) else h x) = if x < c + 1 then !(g x) else g x) := fun x => by
                    by_cases hxc : x = c
                    · rw [if_pos hxc, hxc, if_pos (by omega), hhc]
                    · rw [if_neg hxc, hH.out x]
                      by_cases hlt : x < c
                      · rw [if_pos hlt, if_pos (by omega)]
                      · rw [if_neg hlt, if_neg (by omega)]
                  clear hH hB2 hG2 hhc
                  generalize h c = hcv at *
                  cases hcv
                  · have HS1 := HS true
                    clear HS
                    go_wp2
                    first
                      | exact ⟨⟨c + 1, _, (by first | rfl | go_num | (congr 1; omega)), by omega, HS1, HG _, HH⟩, by simp [intOf] <;> omega⟩
                      | (refine ⟨?_, by simp [intOf] <;> omega⟩; (repeat apply Exists.intro); exact ⟨⟨c + 1, _, (by first | rfl | go_num | (congr 1; omega)), by omega, HS1, HG _, HH⟩, rfl⟩)
                  · have HS1 := HS false
                    clear HS
                    go_wp2
                    first
                      | exact ⟨⟨c + 1, _, (by first | rfl | go_num | (congr 1; omega)), by omega, HS1, HG _, HH⟩, by simp [intOf] <;> omega⟩
                      | (refine ⟨?_, by simp [intOf] <;> omega⟩; (repeat apply Exists.intro); exact ⟨⟨c + 1, _, (by first | rfl | go_num | (congr 1; omega)), by omega, HS1, HG _, HH⟩, rfl⟩)
                · obtain rfl : c = 256 := by omega
                  have hgh : ∀ x, x < 256 → h x = (amongB body x != true) := fun x hx => by
                    rw [hH.out x, if_pos hx, hg x hx]
                    cases amongB body x <;> rfl
                  obtain ⟨l1, l2, l3, l4⟩ := fin_set (t := .set (fun x => amongB body x != true)) (hres.out.grown hG2.out (by omega)) (by rw [Array.length_toList]; exact zs) (by rw [← tokC_congr (f := h) hgh]; exact hB2.out) (Gr.ofGrown hb0' hG2.out (by omega))
                  have t2 := tokA_size (.set (fun x => amongB body x != true))
                  have hRR : SetP w s (.returned (.tuple #[.agg (tokA (.set (fun x => amongB body x != true))), .int .i64 ((en : Int) + 1), .bool true])) (wr.setRow w.heap.size (tokA (.set (fun x => amongB body x != true)))) := by
                    unfold SetP
                    rw [hR.out]
                    refine ⟨?_, l4⟩
                    show _ = _
                    rw [← hend]
                    rfl
                  generalize tokA (.set (fun x => amongB body x != true)) = AR at *
                  clear hR hg hgh hH hB2 hG2 hres hb0'
                  go_wp2
                  refine bodyPost_ret (results_c3 (fn := Tryd.f62) (by rfl) _ _ w.heap.size 85 _ (0, 0) _ (by rfl) l3 Tryd.underlying85 rfl (by rw [t2]; exact sizeTK)) rfl ?_
                  exact hRR
end Go.Proofs.YtcanlgcifnjfaaaDoor
