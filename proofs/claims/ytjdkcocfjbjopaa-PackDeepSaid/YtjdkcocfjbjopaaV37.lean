/- Layer 05: PackDeep. -/
import Derived.Test.YtjdkcocfjbjopaaV36
set_option maxRecDepth 20000
namespace Go.Proofs.Ytjdkcocfjbjopaa
open Go.RowKit Go.Hd Go.ChangeShapes Go.WideShapes Go.ChangeAt
attribute [local go_sem ↓] h_ldV h_stV h_alV h_bsV
attribute [local go_sem] r_ldV r_stV r_alV r_bsV

def deepV (x : Int) : Nat → PV
  | 0 => pNum x
  | i + 1 => pList [deepV x i]
theorem deep_can (x : Int) : ∀ (i d : Nat), canF d (deepV x i) = decide (i < d)
  | i, 0 => by simp [canF]
  | 0, d + 1 => by
    rw [decide_eq_true (by omega)]
    exact canF_flat (by decide) (by decide)
  | i + 1, d + 1 => by
    have h := deep_can x i d
    show canF (d + 1) (pList [deepV x i]) = _
    unfold pList
    rw [canF_many (by decide) (by decide) (fun h => absurd h (by decide))]
    simp only [List.all_cons, List.all_nil, Bool.and_true, h]
    congr 1
    simp
theorem deep_enc (x : Int) : ∀ (i d : Nat) (l0 : List UInt8), i < d → l0.length + i + 9 ≤ 65536 → ∃ L, encO d (some l0) (deepV x i) = some L
  | i, 0, _, h, _ => by omega
  | 0, d + 1, l0, _, h => by
    have := (intB_len x).2
    exact ⟨_, putO_fit (m := intB x) (by rw [List.length_append]; omega)⟩
  | i + 1, d + 1, l0, hd, h => by
    have h1 : manyO 0x90 0xdc (some l0) [deepV x i].length = some (l0 ++ [0x91]) := by
      rw [List.length_singleton]
      unfold manyO
      rw [if_pos (by decide), putO_fit (by simp; omega)]; congr 1
    show ∃ L, [deepV x i].foldl (encO d) (manyO 0x90 0xdc (some l0) [deepV x i].length) = some L
    rw [h1]
    exact deep_enc x i d (l0 ++ [0x91]) (by omega) (by simp; omega)
theorem deep_no {x : Int} {n : Nat} (h : 16 ≤ n) : encF (deepV x n) = ([], 4) := by
  unfold encF
  rw [if_pos (by rw [deep_can, decide_eq_false (by omega)])]
theorem deep_ok {x : Int} {n : Nat} (h : n < 16) : ∃ L, encF (deepV x n) = (L, 0) := by
  obtain ⟨L, hL⟩ := deep_enc x n 16 [] h (by simp; omega)
  refine ⟨L, ?_⟩
  unfold encF
  rw [if_neg (by rw [deep_can, decide_eq_true h]; decide), hL]
theorem deep_step {w : World} {q : Nat} {cs : List Value} {v : PV} (hB : Blk w q 26 cs) (hv : VAtP (fun b => q < b) w cs v) :
    VAtP (fun b => q < b) ((w.alloc (.cells (List.toArray cs) 26)).setRow q (List.toArray [.int .i64 6, .int .i64 0, .slice none 0 0, .string { data := #[] }, .slice none 0 0, .slice (some ⟨w.heap.size, 0, none⟩) 1 1])) [.int .i64 6, .int .i64 0, .slice none 0 0, .string { data := #[] }, .slice none 0 0, .slice (some ⟨w.heap.size, 0, none⟩) 1 1] (pList [v]) := by
  have hq := hB.lt
  have hb : Below w.heap.size w (w.alloc (.cells (List.toArray cs) 26)) := (Below.refl _ _).alloc (Nat.le_refl _) _
  have hg := setRow_gr (w.alloc (.cells (List.toArray cs) 26)) q (List.toArray [.int .i64 6, .int .i64 0, .slice none 0 0, .string { data := #[] }, .slice none 0 0, .slice (some ⟨w.heap.size, 0, none⟩) 1 1])
  have hN : Blk (w.alloc (.cells (List.toArray cs) 26)) w.heap.size 26 cs := by simpa using Blk.new w 26 (List.toArray cs)
  have hN2 := hN.grown hg (by omega)
  have hr := hN2.row
  refine VAtP.mk (k := 6) (n := 0) (b := []) (t := []) (ks := []) (l := [v]) [cs] (by unfold in64; omega) (by unfold in64; omega) (Row.nil _ _) ⟨Nat.le_refl _, Nat.zero_le _⟩ (Nat.zero_le _) (Row.nil _ _) ⟨Nat.le_refl _, Nat.zero_le _⟩ (by simp) (by simpa using hr) ⟨Nat.le_refl _, by decide⟩ rfl (fun c hc => by simp at hc; rw [hc]; exact hv.len) (by simp) (by simp) (fun _ => hq) (fun i c u hc hu => ?_)
  cases i with
  | zero =>
    simp at hc hu
    subst hc hu
    exact (hv.grow hb).same (fun z hz hlt => hg.block z hlt (by have hz : q < z := hz; simp; omega))
  | succ i => simp at hc
set_option maxHeartbeats 4000000 in
theorem pdeep_law {W : World} {n x : Int} (hx : in64 x) :
    Calls Try.prog 9 #[.int .i64 n, .int .i64 x] W fun e W' => e = .returned (.bool true) ∧ Below W.heap.size W W' := by
  have zs := zV_size
  have hO6 := oneC6
  have hwi := within_nat (x := n) (p := 0) (q := 40) 0 40 (w := W) rfl rfl
  have hbd := wN_bd n 0 40 (Nat.zero_le _)
  generalize wN n 0 40 = N at *
  go_enter Try.func9, Try.ntmps9
  go_wp2_with fail
  refine hwi.mono ?_
  rintro e w0 ⟨rfl, rfl⟩
  have hof := of_any x W
  clear hwi
  go_wp2_with fail
  refine hof.mono ?_
  rintro e w1 ⟨rfl, hb1⟩
  have hv0 : VAtP (fun b => w1.heap.size < b) (w1.alloc (.cells (List.toArray (numC x)) 26)) (numC x) (deepV x 0) := VAtP.num _ hx
  have B0 : Blk (w1.alloc (.cells (List.toArray (numC x)) 26)) w1.heap.size 26 (numC x) := Blk.new _ _ _
  have hb2 : Below W.heap.size W (w1.alloc (.cells (List.toArray (numC x)) 26)) := Gr.trans hb1 ((Below.refl _ _).alloc (Nat.le_refl _) _)
  have hsz1 := hb1.size
  have n6 : (List.toArray (numC x)).size = 6 := rfl
  have no : OneC (List.toArray (numC x)) := all_oneCell_toArray hv0.one
  clear hof
  go_upto_block 0 with (fail)
  go_cut [6] (fun _ wx => ∃ cs, Blk wx w1.heap.size 26 cs ∧ VAtP (fun b => w1.heap.size < b) wx cs (deepV x N) ∧ Below W.heap.size W wx)
  case first =>
    go_wp2
    go_loopw [6] (fun i wr => ∃ (j : Nat) (cs : List Value), j ≤ N ∧ i = .int .i64 j ∧ Blk wr w1.heap.size 26 cs ∧ VAtP (fun b => w1.heap.size < b) wr cs (deepV x j) ∧ Below W.heap.size W wr) (fun i _ => N - (intOf i).toNat)
    case atStart => exact ⟨0, _, Nat.zero_le _, rfl, B0, hv0, hb2⟩
    case round =>
      clear B0 hv0 hb2
      obtain ⟨j, cs, hj, rfl, BK, hv, hb⟩ := hrel
      by_cases hlt : j < N
      · have j1 : (j : Int) < (N : Int) := by omega
        have jb : IntKind.i64.wrap ((j : Int) + 1) = (j : Int) + 1 := IntWalk.i64_in _ (by omega)
        have q1 : (ldOp 26 (.pointer (some ⟨w1.heap.size, 0, none⟩))).run Try.prog wr = .ok (.agg (List.toArray cs)) wr := ldOp_all (P := Try.prog) (ty := 26) BK Try.underlying26 rfl (by rw [hv.len]; exact sizeV)
        have x6 : (List.toArray cs).size = 6 := hv.len
        have hba : Below wr.heap.size wr (wr.alloc (.cells (List.toArray cs) 26)) := (Below.refl _ _).alloc (Nat.le_refl _) _
        have BK2 := BK.below hba
        have HST := st_row BK2 hv.len (List.toArray [.int .i64 6, .int .i64 0, .slice none 0 0, .string { data := #[] }, .slice none 0 0, .slice (some ⟨wr.heap.size, 0, none⟩) 1 1]) rfl (oneC6 _ _ _ _ _ _ _ _ _ _ _ _)
        have HB2 := setRow_blk BK2 [.int .i64 6, .int .i64 0, .slice none 0 0, .string { data := #[] }, .slice none 0 0, .slice (some ⟨wr.heap.size, 0, none⟩) 1 1]
        have HV2 : VAtP (fun b => w1.heap.size < b) _ _ (deepV x (j + 1)) := deep_step BK hv
        have HBB : Below W.heap.size W ((wr.alloc (.cells (List.toArray cs) 26)).setRow w1.heap.size (List.toArray [.int .i64 6, .int .i64 0, .slice none 0 0, .string { data := #[] }, .slice none 0 0, .slice (some ⟨wr.heap.size, 0, none⟩) 1 1])) :=
          Below.grown (hb.trans (hba.mono hb.size)) (setRow_gr _ _ _) (hb.trans (hba.mono hb.size)).size (fun k hk => by cases hk; exact hsz1)
        clear BK BK2 hv hb hba
        go_wp2
        first
          | exact ⟨⟨j + 1, _, by omega, (by first | rfl | go_num | (congr 1; omega)), HB2, HV2, HBB⟩, by simp [intOf] <;> omega⟩
          | (refine ⟨?_, by simp [intOf] <;> omega⟩; (repeat apply Exists.intro); exact ⟨⟨j + 1, _, by omega, (by first | rfl | go_num | (congr 1; omega)), HB2, HV2, HBB⟩, rfl⟩)
      · obtain rfl : j = N := by omega
        go_wp2
        go_meet
        exact ⟨cs, BK, hv, hb⟩
  case rest =>
    clear B0 hv0 hb2 n6 no
    obtain ⟨cs, BK, hv, hb⟩ := hcut
    have q1 : (ldOp 26 (.pointer (some ⟨w1.heap.size, 0, none⟩))).run Try.prog wc = .ok (.agg (List.toArray cs)) wc := ldOp_all (P := Try.prog) (ty := 26) BK Try.underlying26 rfl (by rw [hv.len]; exact sizeV)
    have hok := VAt.okV hv.at
    have he := enc_any hv.at (Below.refl _ _)
    by_cases h16 : 16 ≤ N
    · have i16 : 16 ≤ (N : Int) := by omega
      rw [deep_no h16] at he
      clear h16 hbd
      go_wp2_with fail
      refine he.mono ?_
      rintro e w3 ⟨u3, rfl, ⟨a3, c3, rfl, hc3, hm3, hr3⟩, hb3⟩
      have hlv := lives05_any w3
      have hb4 := hb.trans (hb3.mono hb.size)
      try simp only [List.length_nil]
      clear he hr3 BK hv q1
      go_wp2_with fail
      refine hlv.mono ?_
      rintro e w5 ⟨rfl, hb5⟩
      go_wp2
      go_ret
      exact ⟨rfl, hb4.trans (hb5.mono hb4.size)⟩
    · have i16 : ¬ 16 ≤ (N : Int) := by omega
      obtain ⟨L, hL⟩ := deep_ok (x := x) (n := N) (by omega)
      obtain ⟨_, _, hlen, _, hdf⟩ := decF_enc hok hL
      rw [hL] at he
      clear h16 hbd hL
      go_wp2_with fail
      refine he.mono ?_
      rintro e w3 ⟨u3, rfl, ⟨a3, c3, rfl, hc3, hm3, hr3⟩, hb3⟩
      try simp only at hr3 hc3
      have hdec := dec_any (w := w3) (c := c3) rfl hr3 (by unfold maxLen; omega)
      unfold DecP at hdec
      rw [hdf] at hdec
      have hb4 := hb.trans (hb3.mono hb.size)
      have B3 := BK.below hb3
      have hv3 := hv.at.keep hb3
      have hcl := hv.len
      clear he BK hv q1 hdf hlen hr3
      generalize deepV x N = D at *
      go_wp2_with fail
      refine hdec.mono ?_
      rintro e w5 ⟨cs5, rfl, hv5, hb5⟩
      have p6 : (List.toArray cs5).size = 6 := hv5.len
      have po : OneC (List.toArray cs5) := all_oneCell_toArray hv5.one
      have hb6 : Below w5.heap.size w5 (w5.alloc (.cells (List.toArray cs5) 26)) := (Below.refl _ _).alloc (Nat.le_refl _) _
      have B5 : Blk (w5.alloc (.cells (List.toArray cs5) 26)) w5.heap.size 26 cs5 := by simpa using Blk.new w5 26 (List.toArray cs5)
      have hb36 := Gr.trans hb5 hb6
      have B6 := B3.below hb36
      have q6 : (ldOp 26 (.pointer (some ⟨w1.heap.size, 0, none⟩))).run Try.prog (w5.alloc (.cells (List.toArray cs5) 26)) = .ok (.agg cs.toArray) (w5.alloc (.cells (List.toArray cs5) 26)) := ldOp_all (P := Try.prog) (ty := 26) B6 Try.underlying26 rfl (by rw [hcl]; exact sizeV)
      have q5 : (ldOp 26 (.pointer (some ⟨w5.heap.size, 0, none⟩))).run Try.prog (w5.alloc (.cells (List.toArray cs5) 26)) = .ok (.agg cs5.toArray) (w5.alloc (.cells (List.toArray cs5) 26)) := ldOp_all (P := Try.prog) (ty := 26) B5 Try.underlying26 rfl (by rw [hv5.len]; exact sizeV)
      have hps := psame_any (hv3.keep hb36) _ _ _ (hv5.at.keep hb6) (Below.refl _ _)
      rw [sameV_of_norm] at hps
      have hbw6 := hb4.trans (hb36.mono hb4.size)
      clear hdec hv5 hb5 hb6 B5 B6 hb36 hv3 B3
      go_wp2_with fail
      refine hps.mono ?_
      rintro e w7 ⟨rfl, hb7⟩
      have hbw7 := hbw6.trans (hb7.mono hbw6.size)
      have hlv := lives05_any w7
      clear hps q5 q6
      go_wp2_with fail
      refine hlv.mono ?_
      rintro e w8 ⟨rfl, hb8⟩
      go_wp2
      go_ret
      exact ⟨rfl, hbw7.trans (hb8.mono hbw7.size)⟩
theorem packDeep_calls {H : Type} {enc : TypeId × Value → H} {W : World} {base : Nat} {v0 v1 : Value} {d0 d1 : DataW H} {p0 p1 : List MemPlace}
    (o0 : Value.okWide Try.prog W .any base 3 v0) (_ : DataW.Trod enc Try.prog W 0 (fun _ => true) true 3 v0 d0 p0)
    (o1 : Value.okWide Try.prog W .any base 2 v1) (h1 : DataW.Trod enc Try.prog W 0 (fun _ => true) true 2 v1 d1 p1) :
    Calls Try.prog 9 #[v0, v1] W fun e W' => e = .returned (.bool true) ∧ Below W.heap.size W W' := by
  obtain ⟨n, rfl⟩ := okWide_int Try.underlying3 o0
  obtain ⟨y, rfl⟩ := okWide_int Try.underlying2 o1
  obtain ⟨f1, g1⟩ := h1
  obtain ⟨_, e1, _, k1⟩ := DataW.trod_int Try.underlying2 g1
  simp [Value.cells] at e1
  subst e1
  exact pdeep_law (i64_wf k1)
end Go.Proofs.Ytjdkcocfjbjopaa
