/- The walk of LzTail. -/
import Derived.Test.YtpkgcnklpnficaaZ6
namespace Go.Proofs.Ytpkgcnklpnficaa
open Go.ChangeShapes Go.WideShapes Go.ChangeAt Go.RowKit Go.Hd

/-- What Extended answers: the length, where it goes on, whether there is one. -/
def ExR (l : List UInt8) (R : Option (Nat × List UInt8)) (m q : Nat) (ok : Bool) : Prop :=
  match R with
  | some (m', l') => m = m' ∧ q = l.length - l'.length ∧ ok = true
  | none => m = 0 ∧ q = l.length ∧ ok = false
def ExPost (l : List UInt8) (R : Option (Nat × List UInt8)) (w : World) (e : Ending) (w' : World) : Prop :=
  ∃ m q ok, e = .returned (.tuple #[.int .i64 ((m : Nat) : Int), .int .i64 ((q : Nat) : Int), .bool ok]) ∧ ExR l R m q ok ∧ w = w'
def ExRel (l : List UInt8) (p k : Nat) (R : Option (Nat × List UInt8)) (at_ n : Value) : Prop :=
  ∃ q s : Nat, p ≤ q ∧ q ≤ l.length ∧ at_ = .int .i64 q ∧ n = .int .i64 s ∧ extR (l.drop q) s = R ∧ s ≤ k + 255 * (q - p)
theorem extended_any {x y : Int} {p k : Nat} {a : Option Addr} {n c : Nat} {l : List UInt8} {w : World} (hx : x = (p : Int)) (hy : y = (k : Int)) (hn : n = l.length) (hl : Row w a (l.map b8)) (hp : p ≤ l.length) (hk : k < 16) (hm : l.length ≤ 100000) :
    Calls Try.prog 36 #[.slice a n c, .int .i64 x, .int .i64 y] w (ExPost l (extRd (l.drop p) k) w) := by
  subst hx hy hn
  by_cases h15 : k < 15
  · have hI : (k : Int) < 15 := by omega
    have HR : Hid (ExR l (extRd (l.drop p) k) k p true) := by
      show ExR _ _ _ _ _
      unfold extRd
      rw [if_pos h15]
      exact ⟨rfl, by rw [List.length_drop]; omega, rfl⟩
    go_enter Try.func36, Try.ntmps36
    go_wp2
    go_ret3
    exact ⟨k, p, true, rfl, HR.out, rfl⟩
  · have hI : ¬ (k : Int) < 15 := by omega
    obtain ⟨R, hR⟩ : ∃ R, R = extRd (l.drop p) k := ⟨_, rfl⟩
    rw [← hR]
    have hR0 : extR (l.drop p) k = R := by rw [hR]; unfold extRd; rw [if_neg h15]
    clear hR
    go_enter Try.func36, Try.ntmps36
    go_wp2
    go_loop [1, 2] (fun at_ n => ExRel l p k R at_ n) (fun at_ _ => l.length - (intOf at_).toNat)
    case atStart => exact ⟨p, k, Nat.le_refl _, hp, rfl, rfl, hR0, by omega⟩
    case round =>
      clear hR0
      obtain ⟨q, s, hpq, hql, rfl, rfl, hR, hs⟩ := hrel
      by_cases hlt : q < l.length
      · have hqI : (q : Int) < l.length := by omega
        have cb := hl.byte hlt
        have sb := hl.byteSome hlt
        have hd : l.drop q = l[q] :: l.drop (q + 1) := List.drop_eq_getElem_cons hlt
        rw [hd] at hR
        obtain ⟨ch, hch⟩ : ∃ ch, ch = l[q] := ⟨_, rfl⟩
        rw [← hch] at cb hR
        have hcb : (ch.toNat : Int) ≤ 255 := u8_le ch
        have hq1 : ((q : Int) + 1 - 1) = q := by omega
        clear hd hch
        by_cases h255 : ch.toNat < 255
        · have h255I : (ch.toNat : Int) < 255 := by omega
          have HE : Hid (ExR l R (s + ch.toNat) (q + 1) true) := by
            show ExR _ _ _ _ _
            rw [← hR, extR, if_pos h255]
            exact ⟨rfl, by rw [List.length_drop]; omega, rfl⟩
          clear hR
          go_wp2
          go_ret3
          exact ⟨s + ch.toNat, q + 1, true, by simp, HE.out, rfl⟩
        · have h255I : ¬ (ch.toNat : Int) < 255 := by omega
          have h255E : ch.toNat = 255 := by have := ch.toNat_lt; omega
          have HE : Hid (extR (l.drop (q + 1)) (s + 255) = R) := by
            show _ = _
            rw [← hR]
            conv => rhs; rw [extR, if_neg h255]
          have HCE := Lib.hid h255E
          clear hR h255E
          go_wp2
          first
            | exact ⟨⟨q + 1, s + 255, by omega, by omega, (by first | rfl | go_num | (congr 1; omega)), by have := HCE.out; (congr 1; omega), HE.out, by omega⟩, by simp [intOf] <;> omega⟩
            | (refine ⟨?_, by simp [intOf] <;> omega⟩; (repeat apply Exists.intro); exact ⟨⟨q + 1, s + 255, by omega, by omega, (by first | rfl | go_num | (congr 1; omega)), by have := HCE.out; (congr 1; omega), HE.out, by omega⟩, rfl⟩)
      · have hqI : ¬ (q : Int) < l.length := by omega
        have hqe : q = l.length := by omega
        have HE : Hid (ExR l R 0 q false) := by
          show ExR _ _ _ _ _
          rw [← hR, hqe, List.drop_length]
          exact ⟨rfl, rfl, rfl⟩
        clear hR hqe
        go_wp2
        go_ret3
        exact ⟨0, q, false, rfl, HE.out, rfl⟩

theorem drop_suffix {C pre X : List UInt8} {p : Nat} (h : C.drop p = pre ++ X) (hp : p ≤ C.length) : C.drop (p + pre.length) = X ∧ C.length = p + pre.length + X.length := by
  constructor
  · rw [← List.drop_drop, h, List.drop_left]
  · have := congrArg List.length h
    rw [List.length_drop, List.length_append] at this
    omega
theorem drop_head {C X : List UInt8} {t : UInt8} {p : Nat} (h : C.drop p = t :: X) : ∃ hp : p < C.length, C[p] = t ∧ C.drop (p + 1) = X := by
  have hp : p < C.length := by
    rcases Nat.lt_or_ge p C.length with h1 | h1
    · exact h1
    · rw [List.drop_eq_nil_of_le h1] at h; cases h
  rw [List.drop_eq_getElem_cons hp] at h
  injection h with h1 h2
  exact ⟨hp, h1, h2⟩
def TlRel (l C : List UInt8) (w2 : World) (told at_ many : Value) (wr : World) : Prop :=
  ∃ t p m : Nat, told = .int .i64 t ∧ at_ = .int .i64 p ∧ many = .int .i64 m ∧ p ≤ C.length ∧ Enc l t (C.drop p) ∧ (m = 0 ∨ 0 < t) ∧ m ≤ p ∧ t ≤ l.length ∧ wr = w2
section
variable {H : Type} {enc : TypeId × Value → H} {W : World} {base : Nat} {v0 v1 v2 v3 v4 : Value} {d0 d1 d2 d3 d4 : DataW H} {p0 p1 p2 p3 p4 : List MemPlace}
end
end Go.Proofs.Ytpkgcnklpnficaa
