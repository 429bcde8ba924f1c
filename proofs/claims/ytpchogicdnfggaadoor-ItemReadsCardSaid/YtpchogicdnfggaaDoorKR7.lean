/- Joined: what one statement of this layer stands on, part 7 of 19; nothing is assumed. -/
import Derived.Deep.CutBlock
import Derived.Deep.DeepCutAuto
import Derived.Deep.RegionHeld3
import Derived.StillTailTactics
import Derived.Test.YtpchogicdnfggaaDoorKR1
import Derived.Test.YtpchogicdnfggaaDoorKR2
import Derived.Test.YtpchogicdnfggaaDoorKR3
import Derived.Test.YtpchogicdnfggaaDoorKR4
import Derived.Test.YtpchogicdnfggaaDoorKR5
import Derived.Test.YtpchogicdnfggaaDoorKR6
set_option maxRecDepth 20000
namespace Go.Proofs.YtpchogicdnfggaaDoor
open Go.RowKit Go.Hd
attribute [local go_sem ↓] h_ldV h_stV h_alV h_ldID h_stID h_alID
attribute [local go_sem] r_ldV r_stV r_alV r_ldID r_stID r_alID

/-- A text, a list, an id as six cells. -/
def txtS (t : List UInt8) : List Value := [.int .i64 5, .int .i64 0, .slice none 0 0, strV t, .slice none 0 0, .slice none 0 0]
def lstC (v : Value) : List Value := [.int .i64 6, .int .i64 0, .slice none 0 0, strV [], .slice none 0 0, v]
def bytC (v : Value) : List Value := [.int .i64 4, .int .i64 0, v, strV [], .slice none 0 0, .slice none 0 0]
theorem VAtP.txtS {ok : Nat → Prop} (w : World) {t : List UInt8} (h : t.length ≤ maxLen) : VAtP ok w (txtS t) (pTxt t) :=
  .mk (b := []) (t := t) (ks := []) (l := []) [] (by unfold in64; omega) (by unfold in64; omega) (Row.nil _ _) ⟨Nat.le_refl _, Nat.zero_le _⟩ h (Row.nil _ _) ⟨Nat.le_refl _, Nat.zero_le _⟩ (by simp) (Row.nil _ _) ⟨Nat.le_refl _, Nat.zero_le _⟩ rfl (by simp) (by simp) (by simp) (by simp) (by simp)
theorem VAtP.numb {ok : Nat → Prop} (w : World) {n : Int} (h : in64 n) : VAtP ok w (numC n) (pNum n) :=
  .mk (b := []) (t := []) (ks := []) (l := []) [] (by unfold in64; omega) h (Row.nil _ _) ⟨Nat.le_refl _, Nat.zero_le _⟩ (Nat.zero_le _) (Row.nil _ _) ⟨Nat.le_refl _, Nat.zero_le _⟩ (by simp) (Row.nil _ _) ⟨Nat.le_refl _, Nat.zero_le _⟩ rfl (by simp) (by simp) (by simp) (by simp) (by simp)
theorem VAtP.bytS {ok : Nat → Prop} {w : World} {a : Option Addr} {c : Nat} {l : List UInt8} (hr : Row w a (l.map b8)) (hl : l.length ≤ c) (hc : c ≤ maxLen) (ho : 0 < l.length → ok (hd a).block) : VAtP ok w (bytC (.slice a l.length c)) (pByt l) :=
  .mk (b := l) (t := []) (ks := []) (l := []) [] (by unfold in64; omega) (by unfold in64; omega) hr ⟨hl, hc⟩ (Nat.zero_le _) (Row.nil _ _) ⟨Nat.le_refl _, Nat.zero_le _⟩ (by simp) (Row.nil _ _) ⟨Nat.le_refl _, Nat.zero_le _⟩ rfl (by simp) ho (by simp) (by simp) (by simp)
/-- A list out of a row of values. -/
theorem VAtP.lst {ok : Nat → Prop} {w : World} {a : Option Addr} {c : Nat} {css : List (List Value)} {l : List PV} (hr : Row w a css.flatten) (hl : l.length ≤ c) (hc : c ≤ maxLen) (hcs : css.length = l.length) (h6 : ∀ c ∈ css, c.length = 6)
    (ho : 0 < l.length → ok (hd a).block) (sub : ∀ (i : Nat) (c : List Value) (v : PV), css[i]? = some c → l[i]? = some v → VAtP ok w c v) : VAtP ok w (lstC (.slice a l.length c)) (pList l) :=
  .mk (b := []) (t := []) (ks := []) (l := l) css (by unfold in64; omega) (by unfold in64; omega) (Row.nil _ _) ⟨Nat.le_refl _, Nat.zero_le _⟩ (Nat.zero_le _) (Row.nil _ _) ⟨Nat.le_refl _, Nat.zero_le _⟩ (by simp) hr ⟨hl, hc⟩ hcs h6 (by simp) (by simp) ho sub
/-- A map out of a row of keys and a row of values. -/
theorem VAtP.map {ok : Nat → Prop} {w : World} {ak a : Option Addr} {ck c : Nat} {ks : List (List UInt8)} {css : List (List Value)} {l : List PV} (hk : Row w ak (ks.map strV)) (hkl : ks.length ≤ ck) (hkc : ck ≤ maxLen) (hkt : ∀ x ∈ ks, x.length ≤ maxLen) (oks : 0 < ks.length → ok (hd ak).block)
    (hr : Row w a css.flatten) (hl : l.length ≤ c) (hc : c ≤ maxLen) (hcs : css.length = l.length) (h6 : ∀ c ∈ css, c.length = 6)
    (ho : 0 < l.length → ok (hd a).block) (sub : ∀ (i : Nat) (c : List Value) (v : PV), css[i]? = some c → l[i]? = some v → VAtP ok w c v) :
    VAtP ok w [.int .i64 7, .int .i64 0, .slice none 0 0, strV [], .slice ak ks.length ck, .slice a l.length c] (.mk 7 0 [] [] ks l) :=
  .mk (b := []) (t := []) (ks := ks) (l := l) css (by unfold in64; omega) (by unfold in64; omega) (Row.nil _ _) ⟨Nat.le_refl _, Nat.zero_le _⟩ (Nat.zero_le _) hk ⟨hkl, hkc⟩ hkt hr ⟨hl, hc⟩ hcs h6 (by simp) oks ho sub
/-- A value more, out of a row of memory. -/
theorem VsAt.appR {ok ok' : Nat → Prop} {base : Nat} {w : World} {u : Value} {vs : List PV} {c : List Value} {x : PV} {ty : TypeId} {a2 : Option Addr} {c2 : Nat} (h : VsAt ok base w u vs) (hok : ∀ b, ok b → u.ownBlock ≠ some b) (hx : VAtP ok w c x) (hok' : ∀ b, ok b → b < w.heap.size → ok' b)
    (hn : vs.length ≤ 1000000000) (hb : base ≤ w.heap.size) (hrow : Row w a2 c) :
    ∃ a' c' w', (Builtin.append_ #[28, 28] ty #[u, .slice a2 1 c2]).run Tryd.prog w = .ok (.slice a' (vs.length + 1) c') w' ∧ VsAt ok' base w' (.slice a' (vs.length + 1) c') (vs ++ [x]) ∧ Gro w w' u (.slice a' (vs.length + 1) c') := by
  obtain ⟨css, hc1, hc2, hown, hel⟩ := h
  have hl6 := hx.len
  have hsrc : Src Tryd.prog 6 28 (.slice a2 1 c2) 1 c w := Src.ofRow eV.ht _ 1 c2 c (by decide) (by rw [hl6]) hrow hx.one
  obtain ⟨v', w', h1, h2, h3, h4⟩ := append_srcK (ty := ty) eV hown hsrc (by unfold maxLen; omega) (by omega) hb
  obtain ⟨a', c', rfl, _⟩ := owns_rowN h2 (by decide)
  have hG : Gro w w' u (.slice a' (vs.length + 1) c') := ⟨h3, h4⟩
  have keep : ∀ {d : List Value} {y : PV}, VAtP ok w d y → VAtP ok' w' d y := fun hd =>
    (hd.mono (ok' := fun b => ok b ∧ b < w.heap.size) (fun b h1 h2 => ⟨h1, h2⟩)).same (w' := w') (fun b h1 h2 => hG.gr.block b h2 (fun e => hok b h1.1 e.symm)) |>.mono (fun b h1 _ => hok' b h1.1 h1.2)
  refine ⟨a', c', w', h1, ⟨css ++ [c], by simp [hc1], ?_, ?_, ?_⟩, hG⟩
  · intro d hd
    rcases List.mem_append.1 hd with h | h
    · exact hc2 d h
    · simp at h; subst h; exact hl6
  · rw [flat_snoc]; simpa using h2
  · intro i d y hd hy
    rcases Nat.lt_or_ge i css.length with h | h
    · rw [List.getElem?_append_left h] at hd
      rw [List.getElem?_append_left (by omega)] at hy
      exact keep (hel i d y hd hy)
    · rw [List.getElem?_append_right h] at hd
      rw [List.getElem?_append_right (by omega)] at hy
      have hi : i - css.length = 0 := by
        rcases Nat.eq_zero_or_pos (i - css.length) with h0 | h0
        · exact h0
        · rw [List.getElem?_eq_none (by simp; omega)] at hd; cases hd
      rw [hi] at hd
      rw [← hc1, hi] at hy
      simp at hd hy
      subst hd hy
      exact keep hx
theorem ptext_any (t : List UInt8) (w : World) : Calls Tryd.prog 31 #[.string (str t)] w fun e w' => e = .returned (.agg (List.toArray (txtS t))) ∧ Below w.heap.size w w' := by
  have zs := zV_size
  have hO6 := oneC6
  have B3 : Blk (w.alloc (.cells (List.toArray (txtS t)) 30)) w.heap.size 30 (txtS t) := Blk.new _ _ _
  have hb : Below w.heap.size w (w.alloc (.cells (List.toArray (txtS t)) 30)) := (Below.refl _ _).alloc (Nat.le_refl _) _
  go_enter Tryd.func31, Tryd.ntmps31
  go_wp2
  refine bodyPost_ret (results_cell_row (fn := Tryd.f31) (by rfl) _ _ w.heap.size 30 _ (0, 0) _ (by rfl) B3 Tryd.underlying30 rfl sizeV) rfl ⟨rfl, hb⟩
end Go.Proofs.YtpchogicdnfggaaDoor
set_option maxRecDepth 20000
namespace Go.Proofs.YtpchogicdnfggaaDoor
open Go.ChangeShapes Go.WideShapes Go.ChangeAt Go.RowKit Go.Hd

def gV (l : List UInt8) : Nat := if 1 ≤ l.length ∧ l.length ≤ 8 then getL l else 0
def gB (l : List UInt8) : Bool := decide (1 ≤ l.length ∧ l.length ≤ 8)
section
variable {H : Type} {enc : TypeId × Value → H} {W : World} {base : Nat} {v0 v1 v2 : Value} {d0 d1 d2 : DataW H} {p0 p1 p2 : List MemPlace}
end
end Go.Proofs.YtpchogicdnfggaaDoor
set_option maxRecDepth 20000
namespace Go.Proofs.YtpchogicdnfggaaDoor
open Go.RowKit Go.Hd
variable {B : Nat}

/-- The reader in block g has l left, and the error e. -/
def RdAt (B : Nat) (w : World) (g : Nat) (l : List UInt8) (e : Int) : Prop :=
  ∃ a c, Blk w g 115 [.slice a l.length c, .int .i64 e, .bool true] ∧ Row w a (l.map b8) ∧ l.length ≤ c ∧ c ≤ maxLen ∧ (0 < l.length → (hd a).block < B)

end Go.Proofs.YtpchogicdnfggaaDoor
set_option maxRecDepth 20000
namespace Go.Proofs.YtpchogicdnfggaaDoor
open Go.RowKit Go.Hd

/-- A state as the document has it, and the reader's own: bytes left, error, bad. -/
def PRst {α : Type} (s : Rs α) (l : List UInt8) (e : Int) (bad : Bool) : Prop := match s with
  | .ok _ r => l = r ∧ e = 0 ∧ bad = false
  | .no c => (bad = true ∧ c = 4) ∨ (bad = false ∧ e = c ∧ c ≠ 0)
def PRs {α : Type} (B : Nat) (w : World) (gr g : Nat) (s : Rs α) : Prop := ∃ l e bad, Blk w gr 139 [.pointer (some ⟨g, 0, none⟩), .bool bad] ∧ RdAt B w g l e ∧ PRst s l e bad ∧ l.length ≤ 65536 ∧ gr ≠ g
/-- What reading may change: the reader's two blocks. -/
structure Dk (gr g : Nat) (w w' : World) : Prop where
  os : w'.os = w.os
  tape : w'.tape = w.tape
  output : w'.output = w.output
  size : w.heap.size ≤ w'.heap.size
  block : ∀ k, k < w.heap.size → k ≠ gr → k ≠ g → w'.heap[k]? = w.heap[k]?
end Go.Proofs.YtpchogicdnfggaaDoor
set_option maxRecDepth 20000
namespace Go.Proofs.YtpchogicdnfggaaDoor
open Go.RowKit Go.Hd
attribute [local go_sem ↓] h_ldV h_stV h_alV h_bsV
attribute [local go_sem] r_ldV r_stV r_alV r_bsV

/-- The state of list's loop. -/
structure ListI (B gr g : Nat) (w wr : World) (u : Value) (vs : List PV) (T : Rs (List PV)) : Prop where
  row : VsAt (fun b => w.heap.size ≤ b ∧ u.ownBlock ≠ some b) w.heap.size wr u vs
  got : ∀ v0 r, T = .ok v0 r → vs = v0
  st : PRs B wr gr g T
  dk : Dk gr g w wr
end Go.Proofs.YtpchogicdnfggaaDoor
set_option maxRecDepth 20000
namespace Go.Proofs.YtpchogicdnfggaaDoor
open Go.RowKit Go.Hd
attribute [local go_sem ↓] h_ldV h_stV h_alV h_bsV
attribute [local go_sem] r_ldV r_stV r_alV r_bsV

/-- The state of dict's loop. -/
structure DictJ {α : Type} (B gr g : Nat) (w wr : World) (uK uL : Value) (ks : List (List UInt8)) (vs : List PV) (S : Rs α) : Prop where
  res : Blk wr w.heap.size 30 zV.toList
  vb : VB (w.heap.size + 1) (w.heap.size + 1) wr (.mk 7 0 [] [] ks vs) (.slice none 0 0) uK uL
  st : PRs B wr gr g S
  dk : Dk gr g w wr
end Go.Proofs.YtpchogicdnfggaaDoor
set_option maxRecDepth 20000
namespace Go.Proofs.YtpchogicdnfggaaDoor
open Go.RowKit Go.Hd
attribute [local go_sem ↓] h_ldV h_stV h_alV
attribute [local go_sem] r_ldV r_stV r_alV

theorem VAtP.plain {ok : Nat → Prop} (w : World) {k n : Int} {t : List UInt8} (hk : in64 k) (h : in64 n) (ht : t.length ≤ maxLen) : VAtP ok w [.int .i64 k, .int .i64 n, .slice none 0 0, .string (str t), .slice none 0 0, .slice none 0 0] (.mk k n [] t [] []) :=
  .mk (b := []) (t := t) (ks := []) (l := []) [] hk h (Row.nil _ _) ⟨Nat.le_refl _, Nat.zero_le _⟩ ht (Row.nil _ _) ⟨Nat.le_refl _, Nat.zero_le _⟩ (by simp) (Row.nil _ _) ⟨Nat.le_refl _, Nat.zero_le _⟩ rfl (by simp) (by simp) (by simp) (by simp) (by simp)
end Go.Proofs.YtpchogicdnfggaaDoor
set_option maxRecDepth 20000
namespace Go.Proofs.YtpchogicdnfggaaDoor
open Go.RowKit Go.Hd

mutual
/-- A value without what plays no part. -/
def normV : PV → PV
  | .mk k n b t ks l => if k = 3 then pNum n else if k = 4 then pByt b else if k = 5 then pTxt t else if k = 6 then pList (normL l) else if k = 7 then .mk 7 0 [] [] ks (normL l) else pKind k
def normL : List PV → List PV
  | [] => []
  | x :: l => normV x :: normL l
end
theorem normL_len : ∀ l : List PV, (normL l).length = l.length
  | [] => by unfold normL; rfl
  | x :: l => by unfold normL; rw [List.length_cons, List.length_cons, normL_len l]
theorem normV_mk (k n : Int) (b t : List UInt8) (ks : List (List UInt8)) (l : List PV) : normV (.mk k n b t ks l) = if k = 3 then pNum n else if k = 4 then pByt b else if k = 5 then pTxt t else if k = 6 then pList (normL l) else if k = 7 then .mk 7 0 [] [] ks (normL l) else pKind k := by
  rw [normV]
mutual
theorem sameV_norm : ∀ v w : PV, sameV v w = true ↔ normV v = normV w
  | .mk k n b t ks l, .mk k' n' b' t' ks' l' => by
    have hl := sameL_norm l l'
    rw [normV_mk, normV_mk]
    unfold sameV
    simp only [Bool.and_eq_true, Bool.or_eq_true, beq_iff_eq, bne_iff_ne, hl]
    unfold pNum pByt pTxt pList pKind
    constructor
    · rintro ⟨⟨⟨⟨⟨rfl, h3⟩, h4⟩, h5⟩, h7⟩, h6⟩
      by_cases k3 : k = 3
      · rw [if_pos k3, if_pos k3]; rcases h3 with h | h; exact absurd k3 h; rw [h]
      by_cases k4 : k = 4
      · rw [if_neg k3, if_neg k3, if_pos k4, if_pos k4]; rcases h4 with h | h; exact absurd k4 h; rw [h]
      by_cases k5 : k = 5
      · rw [if_neg k3, if_neg k3, if_neg k4, if_neg k4, if_pos k5, if_pos k5]; rcases h5 with h | h; exact absurd k5 h; rw [h]
      by_cases k6 : k = 6
      · rw [if_neg k3, if_neg k3, if_neg k4, if_neg k4, if_neg k5, if_neg k5, if_pos k6, if_pos k6]
        rcases h6 with h | h
        · exact absurd k6 h.1
        · rw [h]
      by_cases k7 : k = 7
      · rw [if_neg k3, if_neg k3, if_neg k4, if_neg k4, if_neg k5, if_neg k5, if_neg k6, if_neg k6, if_pos k7, if_pos k7]
        rcases h6 with h | h
        · exact absurd k7 h.2
        · rcases h7 with g | g
          · exact absurd k7 g
          · rw [h, g]
      rw [if_neg k3, if_neg k3, if_neg k4, if_neg k4, if_neg k5, if_neg k5, if_neg k6, if_neg k6, if_neg k7, if_neg k7]
    · intro h
      have hk : k = k' := by
        have e1 : ∀ (k n : Int) (b t : List UInt8) (ks : List (List UInt8)) (l : List PV), PV.kind (if k = 3 then PV.mk 3 n [] [] [] [] else if k = 4 then PV.mk 4 0 b [] [] [] else if k = 5 then PV.mk 5 0 [] t [] [] else if k = 6 then PV.mk 6 0 [] [] [] (normL l) else if k = 7 then PV.mk 7 0 [] [] ks (normL l) else PV.mk k 0 [] [] [] []) = k := by
          intro k n b t ks l
          repeat' split
          all_goals (first | (rename_i h; exact h.symm) | rfl | (simp only [PV.kind]; omega))
        have := congrArg PV.kind h
        rw [e1, e1] at this
        exact this
      subst hk
      refine ⟨⟨⟨⟨⟨rfl, ?_⟩, ?_⟩, ?_⟩, ?_⟩, ?_⟩
      · by_cases k3 : k = 3
        · rw [if_pos k3, if_pos k3] at h; cases h; exact .inr rfl
        · exact .inl k3
      · by_cases k4 : k = 4
        · have k3 : ¬ k = 3 := by omega
          rw [if_neg k3, if_neg k3, if_pos k4, if_pos k4] at h; cases h; exact .inr rfl
        · exact .inl k4
      · by_cases k5 : k = 5
        · have k3 : ¬ k = 3 := by omega
          have k4 : ¬ k = 4 := by omega
          rw [if_neg k3, if_neg k3, if_neg k4, if_neg k4, if_pos k5, if_pos k5] at h; cases h; exact .inr rfl
        · exact .inl k5
      · by_cases k7 : k = 7
        · have k3 : ¬ k = 3 := by omega
          have k4 : ¬ k = 4 := by omega
          have k5 : ¬ k = 5 := by omega
          have k6 : ¬ k = 6 := by omega
          rw [if_neg k3, if_neg k3, if_neg k4, if_neg k4, if_neg k5, if_neg k5, if_neg k6, if_neg k6, if_pos k7, if_pos k7] at h
          simp only [PV.mk.injEq] at h
          exact .inr h.2.2.2.2.1
        · exact .inl k7
      · by_cases k6 : k = 6
        · have k3 : ¬ k = 3 := by omega
          have k4 : ¬ k = 4 := by omega
          have k5 : ¬ k = 5 := by omega
          rw [if_neg k3, if_neg k3, if_neg k4, if_neg k4, if_neg k5, if_neg k5, if_pos k6, if_pos k6] at h
          simp only [PV.mk.injEq] at h
          exact .inr h.2.2.2.2.2
        · by_cases k7 : k = 7
          · have k3 : ¬ k = 3 := by omega
            have k4 : ¬ k = 4 := by omega
            have k5 : ¬ k = 5 := by omega
            rw [if_neg k3, if_neg k3, if_neg k4, if_neg k4, if_neg k5, if_neg k5, if_neg k6, if_neg k6, if_pos k7, if_pos k7] at h
            simp only [PV.mk.injEq] at h
            exact .inr h.2.2.2.2.2
          · exact .inl ⟨k6, k7⟩
theorem sameL_norm : ∀ l m : List PV, sameL l m = true ↔ normL l = normL m
  | [], [] => by simp [sameL, normL]
  | [], y :: m => by simp [sameL, normL]
  | x :: l, [] => by simp [sameL, normL]
  | x :: l, y :: m => by
    have h1 := sameV_norm x y
    have h2 := sameL_norm l m
    simp only [sameL, normL, Bool.and_eq_true, h1, h2, List.cons.injEq]
end
/-! What is read hangs on the bytes that are read; a beginning of them ends too early. -/
/-! What was written is read. -/
inductive OkV : PV → Prop
  | mk {k n : Int} {b t : List UInt8} {ks : List (List UInt8)} {l : List PV} (hn : in64 n) (hl : ∀ x ∈ l, OkV x) : OkV (.mk k n b t ks l)
theorem putO_small {l m x : List UInt8} (h : putO (some l) m = some x) : x.length ≤ 65536 := (putO_len h).2
theorem fold_len {α : Type} {f : Option (List UInt8) → α → Option (List UInt8)} (hn : ∀ a, f none a = none) (hf : ∀ a l x, l.length ≤ 65536 → f (some l) a = some x → x.length ≤ 65536) : ∀ (l : List α) (o : Option (List UInt8)) (x : List UInt8), (∀ y, o = some y → y.length ≤ 65536) → l.foldl f o = some x → x.length ≤ 65536
  | [], o, x, ho, h => ho x h
  | a :: l, o, x, ho, h => by
    rw [List.foldl_cons] at h
    cases o with
    | none => rw [hn, foldl_none f hn] at h; cases h
    | some y => exact fold_len hn hf l _ x (fun z hz => hf a y z (ho y rfl) hz) h
theorem text_small {l m x : List UInt8} (h : textO (some l) m = some x) : x.length ≤ 65536 := by
  unfold textO at h
  repeat' split at h
  all_goals first | exact putO_small h | cases h
theorem many_small {a b : UInt8} {l x : List UInt8} {n : Nat} (h : manyO a b (some l) n = some x) : x.length ≤ 65536 := by
  unfold manyO at h
  repeat' split at h
  all_goals first | exact putO_small h | cases h
theorem enc_len : ∀ (d : Nat) (v : PV) (l0 x : List UInt8), l0.length ≤ 65536 → encO d (some l0) v = some x → x.length ≤ 65536
  | 0, v, l0, x, h0, h => by cases h; exact h0
  | d + 1, .mk k n b t ks l, l0, x, h0, h => by
    unfold encO at h
    repeat' split at h
    · exact putO_small h
    · exact putO_small h
    · exact putO_small h
    · exact putO_small h
    · unfold blobO at h
      repeat' split at h
      all_goals first | exact putO_small h | cases h
    · exact text_small h
    · exact fold_len (encO_none d) (fun a l x hl hh => enc_len d a l x hl hh) l _ x (fun y hy => many_small hy) h
    · refine fold_len (f := fun o x => encO d (textO o x.1) x.2) (fun a => by simp only [textO_none]; exact encO_none d a.2) (fun a l x hl hh => ?_) (ks.zip l) _ x (fun y hy => many_small hy) h
      cases ht : textO (some l) a.1 with
      | none => simp only [ht] at hh; rw [encO_none] at hh; cases hh
      | some y => simp only [ht] at hh; exact enc_len d a.2 y x (text_small ht) hh
end Go.Proofs.YtpchogicdnfggaaDoor
