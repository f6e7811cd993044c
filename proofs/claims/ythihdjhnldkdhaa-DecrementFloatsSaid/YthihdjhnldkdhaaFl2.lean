/- Floats, plainly: products and quotients that are not above what they were. -/
import Derived.Test.YthihdjhnldkdhaaFl
set_option exponentiation.threshold 2000
set_option linter.unusedVariables false
namespace Go.Proofs.Ythihdjhnldkdhaa.Fl
open Ieee

/-- the word of 1.0 -/
abbrev ONE : Nat := 4607182418800017408
/-- the word of 10000000.0 -/
abbrev TEN7 : Nat := 4711630319722168320

theorem one_V : V double.binade ONE = 2 ^ 1074 := by decide +kernel
theorem ten_V : V double.binade TEN7 = 10000000 * 2 ^ 1074 := by decide +kernel
theorem least_d : double.leastPlace = -1074 := by decide +kernel
theorem inf_d : double.infRung = 9218868437227405312 := by decide +kernel
theorem sw_d : double.signWeight = 9223372036854775808 := by decide +kernel
theorem word_pos (r : Nat) : double.word false r = r := rfl

theorem read_d (neg : Bool) (g : Nat) (hg : g < 9218868437227405312) : ∃ m e, double.read (double.word neg g) = .number neg m e ∧ -1074 ≤ e ∧ m * 2 ^ (e + 1074).toNat = V double.binade g := by
  obtain ⟨m, e, h1, h2, h3⟩ := read_fin double neg g (by rw [sw_d]; omega) (by rw [inf_d]; exact hg)
  rw [least_d] at h2 h3
  exact ⟨m, e, h1, h2, by rw [← h3, show e - -1074 = e + 1074 by omega]⟩

theorem nearest_d (neg : Bool) (mag : Nat) (place : Int) (g : Nat) (h : mag * 2 ^ (place + 1074).toNat ≤ V double.binade g * 2 ^ (-1074 - place).toNat) : ∃ r, double.nearest neg mag place = double.word neg r ∧ r ≤ g := by
  obtain ⟨r, h1, h2, _⟩ := nearest_le double neg mag place g (by rw [least_d, show place - -1074 = place + 1074 by omega]; exact h)
  exact ⟨r, h1, h2⟩

theorem prod_le {m n A A' K X a b : Nat} (h1 : m * 2 ^ A ≤ X) (h2 : n * 2 ^ A' ≤ 2 ^ K) (e : a + K = A + A' + b) : m * n * 2 ^ a ≤ X * 2 ^ b := by
  refine Nat.le_of_mul_le_mul_right (c := 2 ^ K) ?_ (Nat.two_pow_pos _)
  have h3 : m * 2 ^ A * (n * 2 ^ A') ≤ X * 2 ^ K := Nat.mul_le_mul h1 h2
  have h4 : m * n * 2 ^ a * 2 ^ K = m * 2 ^ A * (n * 2 ^ A') * 2 ^ b := by
    rw [Nat.mul_assoc (m * n), ← Nat.pow_add, e, Nat.pow_add, Nat.pow_add]
    simp only [Nat.mul_assoc, Nat.mul_left_comm]
  rw [h4, Nat.mul_right_comm X]
  exact Nat.mul_le_mul_right _ h3

/-- a finite word times a part of one -/
theorem mul_le (s : Bool) (g q : Nat) (hg : g < 9218868437227405312) (hq : q ≤ ONE) : ∃ r, double.mul (double.word s g) q = some (double.word s r) ∧ r ≤ g := by
  obtain ⟨m, e, h1, h2, h3⟩ := read_d s g hg
  obtain ⟨n, e', k1, k2, k3⟩ := read_d false q (by unfold ONE at hq; omega)
  rw [word_pos] at k1
  have hV : V double.binade q ≤ 2 ^ 1074 := by rw [← one_V]; exact V_mono (by decide +kernel) hq
  unfold Format.mul
  rw [h1, k1]
  simp only [Datum.product, Option.map_some, Format.write, Bool.xor_false]
  obtain ⟨r, hr, hl⟩ := nearest_d s (m * n) (e + e') g (prod_le (A := (e + 1074).toNat) (A' := (e' + 1074).toNat) (K := 1074) (Nat.le_of_eq h3) (by rw [k3]; exact hV) (by omega))
  exact ⟨r, by rw [hr], hl⟩

theorem quo_core {m n I J more : Nat} (hn : 0 < n) (hle : m * 2 ^ I ≤ n * 2 ^ J) (hmore : m ≠ 0 → n < m * 2 ^ more) :
    (2 * (m * 2 ^ more / n) + (m * 2 ^ more % n != 0).toNat) * 2 ^ I ≤ 2 ^ (J + more + 1) := by
  by_cases hm : m = 0
  · subst hm; simp
  · have hD := hmore hm
    have h1 : m * 2 ^ more * 2 ^ I ≤ n * 2 ^ (J + more) := by
      rw [Nat.mul_right_comm, Nat.pow_add, ← Nat.mul_assoc]
      exact Nat.mul_le_mul_right _ hle
    generalize m * 2 ^ more = D at *
    by_cases hI : I ≤ J + more
    · obtain ⟨c, hc⟩ : ∃ c, J + more = I + c := ⟨J + more - I, by omega⟩
      rw [hc, Nat.pow_add, ← Nat.mul_assoc, Nat.mul_right_comm] at h1
      have h2 : D ≤ n * 2 ^ c := Nat.le_of_mul_le_mul_right h1 (Nat.two_pow_pos _)
      rw [hc, show I + c + 1 = c + 1 + I by omega, Nat.pow_add]
      refine Nat.mul_le_mul_right _ ?_
      rw [Nat.pow_succ]
      generalize 2 ^ c = W at *
      have e := Nat.div_add_mod D n
      have h3 : D / n ≤ W := by rw [← Nat.mul_div_cancel_left W hn]; exact Nat.div_le_div_right h2
      by_cases h4 : D % n = 0
      · rw [h4]; simp; omega
      · have h5 : D / n ≠ W := by
          intro h; rw [h] at e; omega
        have : (D % n != 0).toNat ≤ 1 := Bool.toNat_le _
        omega
    · exfalso
      obtain ⟨c, hc⟩ : ∃ c, I = J + more + (c + 1) := ⟨I - (J + more) - 1, by omega⟩
      rw [hc, Nat.pow_add, Nat.mul_comm (2 ^ (J + more)), ← Nat.mul_assoc] at h1
      have h2 : D * 2 ^ (c + 1) ≤ n := Nat.le_of_mul_le_mul_right h1 (Nat.two_pow_pos _)
      have h3 : D ≤ D * 2 ^ (c + 1) := Nat.le_mul_of_pos_right D (Nat.two_pow_pos _)
      omega

/-- a quotient of a lesser word by a greater one -/
theorem quo_le (r g : Nat) (hr : r ≤ g) (h0 : 0 < g) (hg : g < 9218868437227405312) : ∃ q, double.div r g = some q ∧ q ≤ ONE := by
  obtain ⟨m, e, h1, h2, h3⟩ := read_d false r (by omega)
  obtain ⟨n, e', k1, k2, k3⟩ := read_d false g hg
  rw [word_pos] at h1 k1
  have hB : 0 < double.binade := by decide +kernel
  have hV := V_mono hB hr
  have hn : n ≠ 0 := by
    intro h
    rw [h, Nat.zero_mul] at k3
    have h4 : V double.binade 1 ≤ V double.binade g := V_mono hB h0
    have h5 : V double.binade 1 = 1 := by decide +kernel
    omega
  unfold Format.div
  rw [h1, k1]
  simp only [Datum.quotient]
  rw [if_neg hn]
  simp only [Option.map_some, Format.write, Bool.xor_false]
  generalize hmore : double.fractionBits + 2 + n.log2 - m.log2 = more
  have hf : double.fractionBits = 52 := rfl
  rw [hf] at hmore
  rw [Nat.shiftLeft_eq]
  have hc := quo_core (m := m) (n := n) (I := (e + 1074).toNat) (J := (e' + 1074).toNat) (more := more) (by omega) (by rw [h3, k3]; exact hV) (fun hm => by
    have c1 : 2 ^ m.log2 ≤ m := Nat.log2_self_le hm
    have c2 : n < 2 ^ (n.log2 + 1) := Nat.lt_log2_self
    have c3 : 2 ^ (n.log2 + 1) ≤ 2 ^ (m.log2 + more) := Nat.pow_le_pow_right (by omega) (by omega)
    have c4 : 2 ^ m.log2 * 2 ^ more ≤ m * 2 ^ more := Nat.mul_le_mul_right _ c1
    rw [← Nat.pow_add] at c4
    omega)
  generalize 2 * (m * 2 ^ more / n) + (m * 2 ^ more % n != 0).toNat = mag at *
  obtain ⟨q, hq, hl⟩ := nearest_d false mag (e - e' - (more : Int) - 1) ONE (by
    rw [one_V]
    have ee : (e - e' - (more : Int) - 1 + 1074).toNat + ((e' + 1074).toNat + more + 1) = (e + 1074).toNat + (1074 + (-1074 - (e - e' - (more : Int) - 1)).toNat) := by omega
    refine Nat.le_of_mul_le_mul_right (c := 2 ^ ((e' + 1074).toNat + more + 1)) ?_ (Nat.two_pow_pos _)
    rw [Nat.mul_assoc, ← Nat.pow_add, ee, Nat.pow_add, ← Nat.mul_assoc, ← Nat.pow_add, Nat.mul_comm (2 ^ (1074 + _))]
    exact Nat.mul_le_mul_right _ hc)
  exact ⟨q, by rw [hq]; rfl, hl⟩

/-- a whole number up to ten millions as a float -/
theorem int_le (c : Nat) (hc : c ≤ 10000000) : double.write (.number false c 0) ≤ TEN7 := by
  simp only [Format.write]
  obtain ⟨q, hq, hl⟩ := nearest_d false c 0 TEN7 (by rw [ten_V]; simp; exact Nat.mul_le_mul_right _ hc)
  rw [hq]
  exact hl

/-- a finite word less itself is nought -/
theorem sub_self_d (s : Bool) (g : Nat) (hg : g < 9218868437227405312) : double.sub (double.word s g) (double.word s g) = some 0 := by
  obtain ⟨m, e, h1, _, _⟩ := read_d s g hg
  unfold Format.sub
  rw [h1]
  have h : signed s m (e - min e e).toNat + signed (!s) m (e - min e e).toNat = 0 := by
    unfold signed
    cases s <;> simp <;> omega
  simp only [Datum.opposite, Datum.sum, h, Option.map_some, Format.write, Int.natAbs_zero, if_true]
  cases s <;> rfl

end Go.Proofs.Ythihdjhnldkdhaa.Fl
