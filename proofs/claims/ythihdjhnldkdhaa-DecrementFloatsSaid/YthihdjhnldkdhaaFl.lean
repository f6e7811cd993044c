/- Floats, plainly: rounding is monotone. -/
import Ieee.Arith
namespace Go.Proofs.Ythihdjhnldkdhaa.Fl
open Ieee

/-- what the rung g is worth, in units of the least place -/
def V (B g : Nat) : Nat := if g < B then g else (B + g % B) * 2 ^ (g / B - 1)

theorem V_q {B g q r : Nat} (hB : 0 < B) (hr : r < B) (hg : g = q * B + r) : V B g = if q = 0 then r else (B + r) * 2 ^ (q - 1) := by
  have h1 : g / B = q := by rw [hg, Nat.mul_comm, Nat.mul_add_div hB, Nat.div_eq_of_lt hr, Nat.add_zero]
  have h2 : g % B = r := by rw [hg, Nat.mul_comm, Nat.mul_add_mod, Nat.mod_eq_of_lt hr]
  unfold V
  rw [h1, h2]
  by_cases hq : q = 0
  · rw [if_pos hq, if_pos (by rw [hg, hq]; omega), hg, hq]; omega
  · rw [if_neg hq, if_neg]
    rw [hg]
    have : B ≤ q * B := Nat.le_mul_of_pos_left B (by omega)
    omega

theorem V_mono {B g h : Nat} (hB : 0 < B) (hgh : g ≤ h) : V B g ≤ V B h := by
  have e1 : g = g / B * B + g % B := by rw [Nat.mul_comm]; exact (Nat.div_add_mod g B).symm
  have e2 : h = h / B * B + h % B := by rw [Nat.mul_comm]; exact (Nat.div_add_mod h B).symm
  have r1 := Nat.mod_lt g hB
  have r2 := Nat.mod_lt h hB
  rw [V_q hB r1 e1, V_q hB r2 e2]
  have hq : g / B ≤ h / B := Nat.div_le_div_right hgh
  generalize g / B = q at *
  generalize h / B = q' at *
  generalize g % B = r at *
  generalize h % B = r' at *
  by_cases hqq : q = q'
  · subst hqq
    have : r ≤ r' := by omega
    split
    · exact this
    · exact Nat.mul_le_mul_right _ (by omega)
  · have hlt : q < q' := by omega
    rw [if_neg (show q' ≠ 0 by omega)]
    have hp : 0 < 2 ^ (q' - 1) := Nat.two_pow_pos _
    have h3 : B ≤ (B + r') * 2 ^ (q' - 1) := Nat.le_trans (Nat.le_mul_of_pos_right B hp) (Nat.mul_le_mul_right _ (by omega))
    split
    · omega
    · rename_i hq0
      have h4 : (B + r) * 2 ^ (q - 1) ≤ (2 * B) * 2 ^ (q - 1) := Nat.mul_le_mul_right _ (by omega)
      have h5 : (2 * B) * 2 ^ (q - 1) = B * 2 ^ q := by
        rw [show q = (q - 1) + 1 by omega, Nat.pow_succ, Nat.add_sub_cancel]
        rw [Nat.mul_comm 2 B, Nat.mul_assoc, Nat.mul_comm 2]
      have h6 : B * 2 ^ q ≤ (B + r') * 2 ^ (q' - 1) := Nat.mul_le_mul (by omega) (Nat.pow_le_pow_right (by omega) (by omega))
      omega

/-- what rounding to even does -/
theorem cut_even (neg : Bool) (n drop : Nat) : 2 * (Toward.even.cut neg n drop) * 2 ^ drop ≤ 2 * n + 2 ^ drop ∧ n / 2 ^ drop ≤ Toward.even.cut neg n drop := by
  unfold Toward.cut
  simp only [Nat.one_shiftLeft]
  by_cases hd : drop ≤ n.log2 + 2
  · rw [Nat.min_eq_left hd]
    have hp : 0 < 2 ^ drop := Nat.two_pow_pos _
    have e := Nat.div_add_mod n (2 ^ drop)
    generalize 2 ^ drop = G at *
    generalize n / G = lo at *
    generalize n % G = re at *
    refine ⟨?_, Nat.le_add_right _ _⟩
    have e2 : 2 * lo * G = 2 * (G * lo) := by rw [Nat.mul_assoc, Nat.mul_comm lo G]
    cases hm : (decide (G < 2 * re) || G == 2 * re && lo % 2 == 1)
    · simp only [Bool.toNat_false, Nat.add_zero]
      omega
    · simp only [Bool.toNat_true]
      have h1 : G ≤ 2 * re := by
        simp at hm
        omega
      rw [Nat.mul_add, Nat.add_mul]
      omega
  · rw [Nat.min_eq_right (by omega)]
    have h1 : n < 2 ^ (n.log2 + 1) := Nat.lt_log2_self
    have h2 : 2 ^ (n.log2 + 2) = 2 * 2 ^ (n.log2 + 1) := by rw [Nat.pow_succ]; omega
    have h3 : n < 2 ^ drop := Nat.lt_of_lt_of_le h1 (Nat.pow_le_pow_right (by omega) (by omega))
    rw [Nat.div_eq_of_lt (show n < 2 ^ (n.log2 + 2) by omega), Nat.mod_eq_of_lt (show n < 2 ^ (n.log2 + 2) by omega), Nat.div_eq_of_lt h3]
    have h4 : (decide (2 ^ (n.log2 + 2) < 2 * n) || 2 ^ (n.log2 + 2) == 2 * n && 0 % 2 == 1) = false := by
      simp; omega
    rw [h4]
    simp

/-- the heart: a rounded number's rung is not above the rung g of what is not less -/
theorem rung_le {B F L mag a b d k g : Nat} (hB : B = 2 ^ F) (hm1 : 2 ^ L ≤ mag) (hm2 : mag < 2 ^ (L + 1))
    (hlo : 0 < d → L + a = F + b) (hhi : L + a ≤ F + b)
    (hk1 : 2 * k * 2 ^ b ≤ 2 * (mag * 2 ^ a) + 2 ^ b) (hk2 : mag * 2 ^ a / 2 ^ b ≤ k)
    (hX : mag * 2 ^ a * 2 ^ d ≤ V B g * 2 ^ b) : d * B + k ≤ g := by
  have hBp : 0 < B := by rw [hB]; exact Nat.two_pow_pos _
  have hb : 0 < 2 ^ b := Nat.two_pow_pos _
  have hdp : 0 < 2 ^ d := Nat.two_pow_pos _
  have hn2 : mag * 2 ^ a < 2 * B * 2 ^ b := by
    have h1 : mag * 2 ^ a < 2 ^ (L + 1) * 2 ^ a := Nat.mul_lt_mul_of_pos_right hm2 (Nat.two_pow_pos _)
    have h2 : 2 ^ (L + 1) * 2 ^ a ≤ 2 ^ (F + 1) * 2 ^ b := by
      rw [← Nat.pow_add, ← Nat.pow_add]; exact Nat.pow_le_pow_right (by omega) (by omega)
    rw [hB, show 2 * 2 ^ F = 2 ^ (F + 1) by rw [Nat.pow_succ]; omega]
    omega
  have hn1 : 0 < d → B * 2 ^ b ≤ mag * 2 ^ a := by
    intro h
    have h1 : 2 ^ L * 2 ^ a ≤ mag * 2 ^ a := Nat.mul_le_mul_right _ hm1
    rw [← Nat.pow_add, hlo h, Nat.pow_add, ← hB] at h1
    exact h1
  generalize mag * 2 ^ a = n at *
  generalize 2 ^ b = G at *
  have hk3 : k ≤ 2 * B := by
    refine Nat.le_of_not_lt fun h => ?_
    have h1 : (2 * B + 1) * G ≤ k * G := Nat.mul_le_mul_right _ h
    have h2 : 2 * k * G = 2 * (k * G) := Nat.mul_assoc _ _ _
    have h3 : (2 * B + 1) * G = 2 * B * G + G := by rw [Nat.add_mul, Nat.one_mul]
    omega
  refine Nat.le_of_not_lt fun hlt => ?_
  have key : k ≠ 0 → ¬ n ≤ (k - 1) * G := by
    intro h0 h
    obtain ⟨j, rfl⟩ : ∃ j, k = j + 1 := ⟨k - 1, by omega⟩
    rw [Nat.add_sub_cancel] at h
    have h2 : 2 * (j + 1) * G = 2 * (j * G) + 2 * G := by rw [Nat.mul_assoc, Nat.add_mul]; omega
    omega
  have hV : V B g ≤ V B (d * B + k - 1) := V_mono hBp (by omega)
  have hX' : n * 2 ^ d ≤ V B (d * B + k - 1) * G := Nat.le_trans hX (Nat.mul_le_mul_right _ hV)
  by_cases hd0 : d = 0
  · subst hd0
    rw [Nat.pow_zero, Nat.mul_one, Nat.zero_mul, Nat.zero_add] at hX'
    have hk0 : k ≠ 0 := by omega
    refine key hk0 (Nat.le_trans hX' (Nat.mul_le_mul_right _ (Nat.le_of_eq ?_)))
    by_cases hkB : k - 1 < B
    · rw [V_q hBp hkB (show k - 1 = 0 * B + (k - 1) by omega), if_pos rfl]
    · rw [V_q (q := 1) (r := k - 1 - B) hBp (by omega) (by omega), if_neg (by omega)]
      simp; omega
  · have hBn := hn1 (by omega)
    have hkB : B ≤ k := Nat.le_trans ((Nat.le_div_iff_mul_le hb).2 hBn) hk2
    by_cases hkB2 : k = B
    · subst hkB2
      have hr : V k (d * k + k - 1) = (k + (k - 1)) * 2 ^ (d - 1) := by
        rw [V_q (q := d) (r := k - 1) hBp (by omega) (by omega), if_neg hd0]
      rw [hr] at hX'
      have h1 : k * G * 2 ^ d ≤ n * 2 ^ d := Nat.mul_le_mul_right _ hBn
      have h2 : 2 ^ d = 2 * 2 ^ (d - 1) := by
        obtain ⟨j, rfl⟩ : ∃ j, d = j + 1 := ⟨d - 1, by omega⟩
        rw [Nat.add_sub_cancel, Nat.pow_succ]; omega
      have h3 : (k + (k - 1)) * 2 ^ (d - 1) * G < k * G * 2 ^ d := by
        rw [h2]
        have h4 : k * G * (2 * 2 ^ (d - 1)) = (2 * k) * 2 ^ (d - 1) * G := by
          simp only [Nat.mul_assoc, Nat.mul_left_comm, Nat.mul_comm]
        rw [h4]
        exact Nat.mul_lt_mul_of_pos_right (Nat.mul_lt_mul_of_pos_right (by omega) (Nat.two_pow_pos _)) hb
      omega
    · have hr : V B (d * B + k - 1) = (k - 1) * 2 ^ d := by
        rw [V_q (q := d + 1) (r := k - 1 - B) hBp (by omega) (by rw [Nat.add_mul]; omega), if_neg (by omega), Nat.add_sub_cancel, show B + (k - 1 - B) = k - 1 by omega]
      rw [hr] at hX'
      refine key (by omega) (Nat.le_of_mul_le_mul_right (c := 2 ^ d) ?_ hdp)
      have h5 : (k - 1) * 2 ^ d * G = (k - 1) * G * 2 ^ d := Nat.mul_right_comm _ _ _
      omega

/-- the nearest word of what is not more than the rung g is worth has a rung not above g -/
theorem nearest_le (f : Format) (neg : Bool) (mag : Nat) (place : Int) (g : Nat)
    (h : mag * 2 ^ (place - f.leastPlace).toNat ≤ V f.binade g * 2 ^ (f.leastPlace - place).toNat) : ∃ r, f.nearest neg mag place = f.word neg r ∧ r ≤ g ∧ r ≤ f.infRung := by
  unfold Format.nearest
  by_cases hm : mag = 0
  · rw [if_pos hm]
    exact ⟨0, rfl, Nat.zero_le _, Nat.zero_le _⟩
  · rw [if_neg hm]
    refine ⟨_, rfl, ?_, Nat.min_le_right _ _⟩
    refine Nat.le_trans (Nat.min_le_left _ _) ?_
    have hm1 : 2 ^ mag.log2 ≤ mag := Nat.log2_self_le hm
    have hm2 : mag < 2 ^ (mag.log2 + 1) := Nat.lt_log2_self
    generalize hlast : max (place + (mag.log2 : Int) - (f.fractionBits : Int)) f.leastPlace = last
    obtain ⟨c1, c2⟩ := cut_even neg (mag <<< (place - last).toNat) (last - place).toNat
    rw [Nat.shiftLeft_eq] at c1 c2 ⊢
    refine rung_le (F := f.fractionBits) (L := mag.log2) (b := (last - place).toNat) rfl hm1 hm2 (fun hd => ?_) ?_ c1 c2 ?_
    · omega
    · omega
    · have e : (place - last).toNat + (last - f.leastPlace).toNat + (f.leastPlace - place).toNat = (last - place).toNat + (place - f.leastPlace).toNat := by omega
      refine Nat.le_of_mul_le_mul_right (c := 2 ^ (f.leastPlace - place).toNat) ?_ (Nat.two_pow_pos _)
      have e1 : mag * 2 ^ (place - last).toNat * 2 ^ (last - f.leastPlace).toNat * 2 ^ (f.leastPlace - place).toNat = 2 ^ (last - place).toNat * (mag * 2 ^ (place - f.leastPlace).toNat) := by
        rw [Nat.mul_assoc mag, ← Nat.pow_add, Nat.mul_assoc mag, ← Nat.pow_add, e, Nat.pow_add, Nat.mul_left_comm]
      have e2 : V f.binade g * 2 ^ (last - place).toNat * 2 ^ (f.leastPlace - place).toNat = 2 ^ (last - place).toNat * (V f.binade g * 2 ^ (f.leastPlace - place).toNat) := by
        rw [Nat.mul_right_comm, Nat.mul_comm]
      rw [e1, e2]
      exact Nat.mul_le_mul_left _ h

/-- a finite word reads as its rung's worth -/
theorem read_fin (f : Format) (neg : Bool) (g : Nat) (hs : g < f.signWeight) (hg : g < f.infRung) : ∃ m e, f.read (f.word neg g) = .number neg m e ∧ f.leastPlace ≤ e ∧ m * 2 ^ (e - f.leastPlace).toNat = V f.binade g := by
  have h1 : f.word neg g % f.signWeight = g := by
    unfold Format.word
    split
    · rw [Nat.add_mod_left, Nat.mod_eq_of_lt hs]
    · exact Nat.mod_eq_of_lt hs
  have h2 : (f.word neg g / f.signWeight % 2 == 1) = neg := by
    unfold Format.word
    cases neg
    · rw [if_neg (by simp), Nat.div_eq_of_lt hs]; rfl
    · rw [if_pos rfl, Nat.add_div_left _ (by omega), Nat.div_eq_of_lt hs]; rfl
  unfold Format.read
  simp only [h1, h2]
  unfold V
  by_cases hb : g < f.binade
  · rw [if_pos hb, if_pos hb]
    exact ⟨_, _, rfl, Int.le_refl _, by simp⟩
  · rw [if_neg hb, if_neg hb, if_pos hg]
    refine ⟨_, _, rfl, by omega, ?_⟩
    rw [show ((f.leastPlace + ((g / f.binade - 1 : Nat) : Int)) - f.leastPlace).toNat = g / f.binade - 1 by omega]

end Go.Proofs.Ythihdjhnldkdhaa.Fl
