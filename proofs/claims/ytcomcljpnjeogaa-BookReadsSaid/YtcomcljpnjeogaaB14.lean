/- The walk of BookCuts. -/
import Derived.Test.YtcomcljpnjeogaaB13
import Derived.Test.YtcomcljpnjeogaaB10
set_option maxRecDepth 20000
namespace Go.Proofs.Ytcomcljpnjeogaa
open Go.ChangeShapes Go.WideShapes Go.ChangeAt Go.RowKit Go.Hd

set_option maxHeartbeats 1000000 in
theorem bcuts_law {a : Option Addr} {c : Nat} {l : List BRow} {x : Int} {more : UInt8} {w : World} (hc : l.length ≤ c) (h1 : EntRd 35 w a l) (f1 : ∀ r ∈ l, fitR kI r) :
    Calls Try.prog 4 #[.slice a l.length c, .int .i64 x, .int .u8 (more.toNat : Int)] w fun e w' => e = .returned (.bool true) ∧ Below w.heap.size w w' := by
  go_enter Try.func4, Try.ntmps4
  go_wp2_with fail
  refine (few_any (l2 := []) (l3 := []) hc (Nat.le_refl _) (Nat.le_refl _) h1 (EntRd.nil 34 w) (EntRd.nil 3 w)).mono ?_
  rintro e w' ⟨⟨b1, b2, b3, d1, d2, d3, rfl, ⟨g1, _, _⟩, _⟩, rfl⟩
  have m1 : (l.take 30).length ≤ 30 := List.length_take_le _ _
  have F1 := fun r hr => f1 r (List.mem_of_mem_take (i := 30) hr)
  generalize l.take 30 = L at *
  clear h1 f1 hc
  go_wp2_with fail
  refine (idx_any rfl g1 F1 (by omega)).mono ?_
  rintro e w1 ⟨v1, rfl, R1, B1⟩
  by_cases hw : (writeF kI L).2 = 0
  · have hcut := fun m hm => read_cut kI_good F1 hw m hm
    have hmore := read_more kI_good F1 hw more
    obtain ⟨_, _, _, hwe⟩ := write_ok hw
    have hlen : (writeF kI L).1.length = 20 + L.length * 44 := by rw [hwe]; exact book_length kI_good F1
    rw [hw]
    obtain ⟨x1, y1, rfl, z1, q1, r1⟩ := R1
    generalize (writeF kI L).1 = D at *
    clear hwe g1 hw
    have hD : 20 ≤ D.length := by omega
    have hD2 : D.length ≤ 2000 := by omega
    have eL : IntKind.i64.wrap ((D.length : Int) - 1) = ((D.length - 1 : Nat) : Int) := by
      have e : (D.length : Int) - 1 = ((D.length - 1 : Nat) : Int) := by omega
      rw [e]; exact IntWalk.i64_in _ (by omega)
    have e0 : ((D.length : Int) == 0) = false := beq_eq_false_iff_ne.2 (by omega)
    have hM := wN_bd x 0 (D.length - 1) (Nat.zero_le _)
    have HLEN := Lib.hid hlen
    clear hlen
    go_wp2_with fail
    refine (within_nat (x := x) 0 (D.length - 1) rfl (by omega)).mono ?_
    rintro e w2 ⟨rfl, rfl⟩
    generalize wN x 0 (D.length - 1) = M at *
    obtain ⟨a2, c2, hsl, hc2, _, hr2⟩ := cut_h (P := Try.prog) (t := 27) (e := 5) (s := 1) eB.ht (by kernel_rfl) r1 (n := D.length) (k2 := .i64) (j := (M : Int)) (q := M) rfl (by omega : M ≤ y1)
    rw [Nat.mul_one, ← List.map_take] at hr2
    have hlM : (D.take M).length = M := by rw [List.length_take]; omega
    clear eL
    go_wp2_with fail
    refine (rdidx_any (l := D.take M) hlM.symm hc2 hr2 (by omega)).mono ?_
    rintro e w3 ⟨v3, rfl, R3, B3⟩
    rw [hcut M (by omega)] at R3 ⊢
    obtain ⟨x3, y3, rfl, _, _, _⟩ := R3
    have r13 := r1.below B3
    clear hcut hsl hlM hr2
    go_wp2_with fail
    refine (copy_any x1 _ y1 D w3 rfl r13 (by omega)).mono ?_
    rintro e w4 ⟨v4, rfl, ho4, hb4⟩
    obtain ⟨v5, w5, hrun, ho5, _, _, hb5⟩ := Own.append1 (ty := 27) ho4 eB more (by omega) hb4.size
    obtain ⟨a5, c5, rfl, hc5, _, hr5, _⟩ := ho5.at
    clear ho4 ho5
    have hl5 : (D ++ [more]).length = D.length + 1 := by simp
    rw [hl5] at hc5 hrun
    go_wp2_with (at_builtin; refine wpList_append_run hrun rfl rfl rfl rfl ?_)
    refine (rdidx_any (l := D ++ [more]) hl5.symm hc5 hr5 (by omega)).mono ?_
    rintro e w6 ⟨v6, rfl, R6, B6⟩
    rw [hmore] at R6 ⊢
    obtain ⟨x6, y6, rfl, _, _, _⟩ := R6
    have hbw : Below w.heap.size w w6 := Gr.trans (Gr.trans (Gr.trans B1 B3) (hb4.trans hb5)) B6
    clear hmore
    go_wp2_with fail
    refine (lives13_any _).mono ?_
    rintro e w10 ⟨rfl, hb10⟩
    go_wp2
    go_ret
    exact ⟨rfl, Gr.trans hbw hb10⟩
  · have hw' : ((writeF kI L).2 != 0) = true := by simpa using hw
    generalize writeF kI L = WW at *
    clear hw
    go_wp2_with fail
    refine (lives13_any _).mono ?_
    rintro e w10 ⟨rfl, hb10⟩
    go_wp2
    go_ret
    exact ⟨rfl, Gr.trans B1 hb10⟩
section
variable {H : Type} {enc : TypeId × Value → H} {W : World} {base : Nat} {v0 v1 v2 : Value} {d0 d1 d2 : DataW H} {p0 p1 p2 : List MemPlace}
theorem bookCuts_calls (o0 : Value.okWide Try.prog W .any base 22 v0) (h0 : DataW.Trod enc Try.prog W 0 (fun _ => true) true 22 v0 d0 p0)
    (o1 : Value.okWide Try.prog W .any base 3 v1) (h1 : DataW.Trod enc Try.prog W 0 (fun _ => true) true 3 v1 d1 p1)
    (o2 : Value.okWide Try.prog W .any base 5 v2) (h2 : DataW.Trod enc Try.prog W 0 (fun _ => true) true 5 v2 d2 p2) :
    Calls Try.prog 4 #[v0, v1, v2] W fun e W' => e = .returned (.bool true) ∧ Below W.heap.size W W' := by
  obtain ⟨a1, n1, c1, l1, rfl, rfl, hc1, r1, f1, _⟩ := open_ents (k := kI) Try.underlying22 (by kernel_rfl) ent_KD o0 h0
  obtain ⟨x, rfl, rfl, rfl, w1⟩ := open_int Try.underlying3 o1 h1
  obtain ⟨z, rfl, rfl, rfl, w2⟩ := open_int Try.underlying5 o2 h2
  have hz := u8_wf w2
  have e : z = ((UInt8.ofNat z.toNat).toNat : Int) := by simp; omega
  rw [e]
  exact bcuts_law hc1 r1 f1
end
end Go.Proofs.Ytcomcljpnjeogaa
