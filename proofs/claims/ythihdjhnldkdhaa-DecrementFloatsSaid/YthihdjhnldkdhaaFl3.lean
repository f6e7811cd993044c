/- Floats in the walk: a difference of a float and itself; the bits of a NaN. -/
import Derived.WalkKit
import Derived.WalkLawsBesides
import Derived.Test.YthihdjhnldkdhaaFl2
set_option exponentiation.threshold 2000
set_option linter.unusedVariables false
namespace Go.Proofs.Ythihdjhnldkdhaa.Fl
open Ieee

/-- the bits that a NaN gets at w -/
def nanB (w : World) (x y : Nat) : Nat := (Question.nanBits .f64 x y).cut (w.tape w.drawn (.nanBits .f64 x y))

theorem nanB_order (w : World) (x y z : Nat) : FloatKind.f64.format.order (nanB w x y) z = none := by
  have h : ∃ s u, double.read (nanB w x y) = .nan s u := by
    unfold nanB Question.cut
    simp only
    generalize w.tape w.drawn (.nanBits .f64 x y) = t
    have h1 : t % 2 < 2 := Nat.mod_lt _ (by omega)
    have h2 : t / 2 % (2 ^ 52 - 1) < 4503599627370495 := Nat.mod_lt _ (by omega)
    generalize t / 2 % (2 ^ 52 - 1) = u at *
    generalize t % 2 = b at *
    unfold Format.read
    have hB : double.binade = 4503599627370496 := by decide +kernel
    simp only [sw_d, inf_d, hB]
    have h3 : (b * 2 ^ 63 + 9218868437227405312 + 1 + u) % 9223372036854775808 = 9218868437227405312 + 1 + u := by omega
    rw [h3, if_neg (by omega), if_neg (by omega), if_neg (by omega)]
    exact ⟨_, _, rfl⟩
  obtain ⟨s, u, hr⟩ := h
  show (double.read _).order (double.read z) = none
  rw [hr]
  rfl

theorem nanB_neq (w : World) (x y z : Nat) : (FloatKind.f64.format.order (nanB w x y) z != some .eq) = true := by rw [nanB_order]; rfl

theorem run_sub_nan {P : Program} {t : TypeId} {x y : Nat} (h : double.sub x y = none) (w : World) : (binOp .sub t (.float .f64 x) (.float .f64 y)).run P w = .ok (.float .f64 (nanB w x y)) w.drew := by
  have h' : FloatKind.f64.format.sub x y = none := h
  simp [binOp, Op.floatArith, h', nanB, Question.forced]

/-- a word is a sign and a rung -/
theorem word_of (b : Nat) (h : b < 18446744073709551616) : ∃ s g, b = double.word s g ∧ g < 9223372036854775808 := by
  by_cases hb : b < 9223372036854775808
  · exact ⟨false, b, rfl, hb⟩
  · refine ⟨true, b - 9223372036854775808, ?_, by omega⟩
    show b = double.signWeight + (b - 9223372036854775808)
    rw [sw_d]; omega

theorem sub_self_inf (s : Bool) (g : Nat) (h1 : 9218868437227405312 ≤ g) (h2 : g < 9223372036854775808) : double.sub (double.word s g) (double.word s g) = none := by
  unfold Format.sub
  have : (∃ s', double.read (double.word s g) = .infinity s') ∨ ∃ s' u, double.read (double.word s g) = .nan s' u := by
    have hw : double.word s g % 9223372036854775808 = g := by
      cases s
      · exact Nat.mod_eq_of_lt h2
      · show (double.signWeight + g) % _ = g
        rw [sw_d]; omega
    unfold Format.read
    have hB : double.binade = 4503599627370496 := by decide +kernel
    simp only [sw_d, inf_d, hB, hw]
    rw [if_neg (by omega), if_neg (by omega)]
    split
    · exact .inl ⟨_, rfl⟩
    · exact .inr ⟨_, _, rfl⟩
  rcases this with ⟨s', h⟩ | ⟨s', u, h⟩
  · rw [h]
    cases s' <;> rfl
  · rw [h]
    rfl

end Go.Proofs.Ythihdjhnldkdhaa.Fl
