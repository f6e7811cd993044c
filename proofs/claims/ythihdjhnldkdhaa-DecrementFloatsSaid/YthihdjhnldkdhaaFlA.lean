/- Those who are still there, in floats: the program's walk. -/
import Derived.Test.YthihdjhnldkdhaaCs3
import Derived.Test.YthihdjhnldkdhaaFl3
set_option linter.unusedVariables false
set_option linter.unusedSimpArgs false
namespace Go.Proofs.Ythihdjhnldkdhaa
open Go.RowKit Dig Fl

/-- the chance to stay, of a rate, as a float -/
def fq (z : Int) : Nat := (Ieee.Format.div Ieee.double (floatOfInt .f64 (10000000 - z)) TEN7).getD 0
/-- of the first d causes -/
def pF (Z : Nat → Nat → Int) (c : Nat) : Nat → Nat
  | 0 => ONE
  | d + 1 => (Ieee.Format.mul Ieee.double (pF Z c d) (fq (Z d c))).getD 0
/-- those who are still there after k years -/
def rad (Z : Nat → Nat → Int) (n c x : Nat) : Nat → Nat
  | 0 => x
  | k + 1 => (Ieee.Format.mul Ieee.double (rad Z n c x k) (pF Z (c + k) n)).getD 0

theorem fq_le {z : Int} (h0 : 0 ≤ z) (h1 : z ≤ 10000000) : Ieee.Format.div Ieee.double (floatOfInt .f64 (10000000 - z)) TEN7 = some (fq z) ∧ fq z ≤ ONE := by
  have e : floatOfInt .f64 (10000000 - z) = Ieee.Format.write Ieee.double (.number false (10000000 - z).natAbs 0) := by
    unfold floatOfInt FloatKind.nearest FloatKind.encode
    rw [show decide (10000000 - z < 0) = false by simp; omega]
    rfl
  have h2 := int_le (10000000 - z).natAbs (by omega)
  rw [← e] at h2
  obtain ⟨q, hq, hl⟩ := quo_le _ TEN7 h2 (by decide) (by decide)
  unfold fq
  rw [hq]
  exact ⟨rfl, hl⟩

theorem pF_le {Z : Nat → Nat → Int} {c n : Nat} (h : ∀ d, d < n → 0 ≤ Z d c ∧ Z d c ≤ 10000000) : ∀ d, d ≤ n → pF Z c d ≤ ONE
  | 0, _ => Nat.le_refl _
  | d + 1, hd => by
    obtain ⟨r, hr, hl⟩ := mul_le false (pF Z c d) (fq (Z d c)) (by have := pF_le h d (by omega); unfold ONE at this; omega) (fq_le (h d (by omega)).1 (h d (by omega)).2).2
    rw [word_pos, word_pos] at hr
    show (Ieee.Format.mul Ieee.double (pF Z c d) (fq (Z d c))).getD 0 ≤ ONE
    rw [hr]
    exact Nat.le_trans hl (pF_le h d (by omega))
theorem pF_mul {Z : Nat → Nat → Int} {c n d : Nat} (h : ∀ d, d < n → 0 ≤ Z d c ∧ Z d c ≤ 10000000) (hd : d < n) : Ieee.Format.mul Ieee.double (pF Z c d) (fq (Z d c)) = some (pF Z c (d + 1)) := by
  obtain ⟨r, hr, hl⟩ := mul_le false (pF Z c d) (fq (Z d c)) (by have := pF_le h d (by omega); unfold ONE at this; omega) (fq_le (h d (by omega)).1 (h d (by omega)).2).2
  rw [word_pos] at hr
  show _ = some ((Ieee.Format.mul Ieee.double (pF Z c d) (fq (Z d c))).getD 0)
  rw [hr]
  rfl
theorem rad_fin {Z : Nat → Nat → Int} {n c m : Nat} {s : Bool} {g : Nat} (hg : g < 9218868437227405312) (h : ∀ c, c < m → ∀ d, d < n → 0 ≤ Z d c ∧ Z d c ≤ 10000000) : ∀ k, c + k ≤ m → ∃ g', rad Z n c (Ieee.Format.word Ieee.double s g) k = Ieee.Format.word Ieee.double s g' ∧ g' < 9218868437227405312
  | 0, _ => ⟨g, rfl, hg⟩
  | k + 1, hk => by
    obtain ⟨g', h1, h2⟩ := rad_fin (n := n) (c := c) (s := s) (m := m) hg h k (by omega)
    obtain ⟨r, hr, hl⟩ := mul_le s g' (pF Z (c + k) n) h2 (pF_le (h (c + k) (by omega)) n (Nat.le_refl _))
    refine ⟨r, ?_, by omega⟩
    show (Ieee.Format.mul Ieee.double (rad Z n c _ k) (pF Z (c + k) n)).getD 0 = _
    rw [h1, hr]
    rfl
theorem rad_mul {Z : Nat → Nat → Int} {n c m k : Nat} {s : Bool} {g : Nat} (hg : g < 9218868437227405312) (h : ∀ c, c < m → ∀ d, d < n → 0 ≤ Z d c ∧ Z d c ≤ 10000000) (hk : c + k < m) :
    Ieee.Format.mul Ieee.double (rad Z n c (Ieee.Format.word Ieee.double s g) k) (pF Z (c + k) n) = some (rad Z n c (Ieee.Format.word Ieee.double s g) (k + 1)) := by
  obtain ⟨g', h1, h2⟩ := rad_fin (n := n) (c := c) (m := m) (s := s) hg h k (by omega)
  obtain ⟨r, hr, hl⟩ := mul_le s g' (pF Z (c + k) n) h2 (pF_le (h (c + k) hk) n (Nat.le_refl _))
  show _ = some ((Ieee.Format.mul Ieee.double (rad Z n c _ k) (pF Z (c + k) n)).getD 0)
  rw [h1, hr]
  rfl

/-- floats as values -/
def fv (l : List Nat) : List Value := l.map fun (d : Nat) => Value.float .f64 d
/-- the slice v holds the floats l -/
def Fls (w : World) (v : Value) (l : List Nat) : Prop := w.ownsRow 0 25 1 v l.length (fv l)

open Classical in
/-- what both programs answer -/
noncomputable def flE (f : Int) (n : Nat) (L : Nat → Nat) (Z : Nat → Nat → Int) (age : Int) (x : Nat) : Int × List Nat :=
  if agE f n L Z age ≠ 0 then (agE f n L Z age, [])
  else if Ieee.Format.sub Ieee.double x x = none then (20, [])
  else if (FloatKind.f64.format.order x 0 == some .lt) = true then (1, [])
  else (0, (List.range (L 0 - (age - f).toNat + 1)).map (rad Z n (age - f).toNat x))

theorem flE_e {f : Int} {n : Nat} {L : Nat → Nat} {Z : Nat → Nat → Int} {age : Int} {x : Nat} (h : agE f n L Z age ≠ 0) : flE f n L Z age x = (agE f n L Z age, []) := by unfold flE; rw [if_pos h]
theorem flE_nan {f : Int} {n : Nat} {L : Nat → Nat} {Z : Nat → Nat → Int} {age : Int} {x : Nat} (h : agE f n L Z age = 0) (h1 : Ieee.Format.sub Ieee.double x x = none) : flE f n L Z age x = (20, []) := by
  unfold flE; rw [if_neg (by rw [h]; simp), if_pos h1]
theorem flE_neg {f : Int} {n : Nat} {L : Nat → Nat} {Z : Nat → Nat → Int} {age : Int} {x : Nat} (h : agE f n L Z age = 0) (h1 : ¬ Ieee.Format.sub Ieee.double x x = none) (h2 : (FloatKind.f64.format.order x 0 == some .lt) = true) : flE f n L Z age x = (1, []) := by
  unfold flE; rw [if_neg (by rw [h]; simp), if_neg h1, if_pos h2]
theorem flE_ok {f : Int} {n : Nat} {L : Nat → Nat} {Z : Nat → Nat → Int} {age : Int} {x : Nat} (h : agE f n L Z age = 0) (h1 : ¬ Ieee.Format.sub Ieee.double x x = none) (h2 : ¬ (FloatKind.f64.format.order x 0 == some .lt) = true) : flE f n L Z age x = (0, (List.range (L 0 - (age - f).toNat + 1)).map (rad Z n (age - f).toNat x)) := by
  unfold flE; rw [if_neg (by rw [h]; simp), if_neg h1, if_neg h2]
theorem Fls.nil (w : World) : Fls w (.slice none 0 0) [] := World.ownsRow_nil w 0 _ 1
theorem agE_inv {f : Int} {n : Nat} {L : Nat → Nat} {Z : Nat → Nat → Int} {age : Int} (h : agE f n L Z age = 0) : CauOk f n L Z ∧ f ≤ age ∧ age ≤ f + (L 0 : Int) - 1 := by
  unfold agE at h
  split at h
  · rename_i h1
    split at h
    · omega
    · exact ⟨h1, by omega, by omega⟩
  · omega

end Go.Proofs.Ythihdjhnldkdhaa
