/-
  UART, part G: the statement 'UartKeeps': the walk, and the plain law.
-/
import Derived.Test.YteionboacdkfjaaUE
namespace Go.Proofs.Yteionboacdkfjaa.X

def band (a b : Int) : Int := IntKind.u8.wrap (BitVec.ofInt 8 a &&& BitVec.ofInt 8 b).toNat
def bor (a b : Int) : Int := IntKind.u8.wrap (BitVec.ofInt 8 a ||| BitVec.ofInt 8 b).toNat

def keepsA (u : Us) (g : Nat → Int) (w : Int) (l : Int) : Bool :=
  let f2 := cond (w.tmod 2 != 0) false false
  let f3 := cond (okU u) f2 f2
  let c := fun (y : Us) (v : Int) => cond (okU y) (cond (w.tmod 2 != 0) (cond (v == band (g 0) 7) (cond (g 1 == g 1) true false) false) (cond (v == g 0) (cond (g 1 == g 1) true false) false)) f2
  let b := fun (y : Us) => cond (okU y) (cond (okU y) (cond (!(band l 128 != 0)) (c y y.ier) (c y y.dlm)) (cond (okU y) f2 f2)) f2
  cond (okU u) (cond (band l 128 != 0) (b { u with lcr := l, dlm := g 0 }) (b { u with lcr := l, ier := band (g 0) 7 })) f2

def keepsT (u : Us) (g : Nat → Int) (w : Int) : Bool :=
  cond (okU u) (cond (w.tmod 2 == 0) (keepsA u g w (bor (band u.lcr 127) 128)) (keepsA u g w (band u.lcr 127))) true

set_option maxRecDepth 100000 in
theorem keeps_run (u : Us) (g : Nat → Int) (w : Int) : go ov4 18 4 4 [.ag (encU u), .ag [.run .u8 2 g], .sc (.i .i64 w)] vtrue = keepsT u g w := by kernel_rfl

theorem wrap_u8 (n : Int) : IntKind.u8.wrap n = n % 256 := by simp [IntKind.wrap, IntKind.signed, IntKind.bits]
theorem wrap_b8 (b : BitVec 8) : IntKind.u8.wrap (b.toNat : Int) = (b.toNat : Int) := by
  have := b.isLt
  rw [wrap_u8]
  omega

theorem ofInt_wrap (b : BitVec 8) : BitVec.ofInt 8 (IntKind.u8.wrap (b.toNat : Int)) = b := by
  rw [wrap_b8]
  simp

theorem wrap_zero (b : BitVec 8) : (IntKind.u8.wrap (b.toNat : Int) != 0) = (b != 0#8) := by
  rw [wrap_b8, Bool.eq_iff_iff]
  simp only [bne_iff_ne, ne_eq]
  constructor
  · intro h e
    exact h (by rw [e]; rfl)
  · intro h e
    exact h (by apply BitVec.eq_of_toNat_eq; simpa using e)

theorem latch_set (x : Int) : (band (bor (band x 127) 128) 128 != 0) = true := by
  simp only [band, bor, wrap_zero, ofInt_wrap]
  generalize BitVec.ofInt 8 x = a
  revert a
  decide

theorem latch_clear (x : Int) : (band (band x 127) 128 != 0) = false := by
  simp only [band, wrap_zero, ofInt_wrap]
  generalize BitVec.ofInt 8 x = a
  revert a
  decide

theorem and7 (x : Int) : band x 7 ≤ 7 := by
  have : ∀ a : BitVec 8, (a &&& 7#8).toNat ≤ 7 := by decide
  have h := this (BitVec.ofInt 8 x)
  unfold band
  rw [wrap_b8]
  exact_mod_cast h

theorem okU_ier {u : Us} (h : okU u = true) {i l : Int} (hi : i ≤ 7) : okU { u with lcr := l, ier := i } = true := by
  simp only [okU, Bool.and_eq_true, decide_eq_true_eq] at h ⊢
  exact ⟨h.1, h.2.1, hi, h.2.2.2⟩

theorem keeps_true (u : Us) (g : Nat → Int) (w : Int) : keepsT u g w = true := by
  unfold keepsT
  cases hok : okU u with
  | false => rfl
  | true =>
    simp only [cond_true]
    by_cases hw : w.tmod 2 = 0
    · have e1 : (w.tmod 2 == 0) = true := by simp [hw]
      have e2 : (w.tmod 2 != 0) = false := by simp [hw]
      have h1 : okU { u with lcr := bor (band u.lcr 127) 128, dlm := g 0 } = true := hok
      simp only [e1, cond_true, keepsA, hok, latch_set, h1, e2, Bool.not_true, cond_false, beq_self_eq_true]
    · have e1 : (w.tmod 2 == 0) = false := by simp [hw]
      have e2 : (w.tmod 2 != 0) = true := by simp [hw]
      have h1 : okU { u with lcr := band u.lcr 127, ier := band (g 0) 7 } = true := okU_ier hok (and7 _)
      simp only [e1, cond_false, keepsA, hok, latch_clear, h1, e2, Bool.not_false, cond_true, beq_self_eq_true]

end Go.Proofs.Yteionboacdkfjaa.X
