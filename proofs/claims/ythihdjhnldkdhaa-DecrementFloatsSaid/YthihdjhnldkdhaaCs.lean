/- Causes, read: the two checks answer the same. -/
import Derived.Test.YthihdjhnldkdhaaMem
set_option linter.unusedVariables false
set_option linter.unusedSimpArgs false
namespace Go.Proofs.Ythihdjhnldkdhaa
open Go.RowKit Dig

/-- the value v holds the first age f and n rows, row r of L r rates Z r c -/
structure Cau (w : World) (f : Int) (A : Option Addr) (n C : Nat) (L : Nat → Nat) (Z : Nat → Nat → Int) : Prop where
  lo : -9223372036854775808 ≤ f
  hi : f ≤ 9223372036854775807
  nm : n ≤ 9223372036854775807
  row : ∀ r, r < n → ∃ b o R D, A = some ⟨b, o, none⟩ ∧ w.cell? ⟨b, o + r, none⟩ = some (.slice R (L r) D) ∧ L r ≤ 9223372036854775807 ∧
    ∀ c, c < L r → ∃ b' o', R = some ⟨b', o', none⟩ ∧ w.cell? ⟨b', o' + c, none⟩ = some (.int .i64 (Z r c)) ∧ -9223372036854775808 ≤ Z r c ∧ Z r c ≤ 9223372036854775807

theorem cell_below {w w1 : World} (hb : Below w.heap.size w w1) {p : Addr} {v : Value} (h : w.cell? p = some v) : w1.cell? p = some v := by
  rw [hb.cell (World.block_lt_of_cell? w _ h)]; exact h
theorem Cau.below {w w1 : World} {f : Int} {A : Option Addr} {n C : Nat} {L : Nat → Nat} {Z : Nat → Nat → Int} (h : Cau w f A n C L Z) (hb : Below w.heap.size w w1) : Cau w1 f A n C L Z :=
  ⟨h.lo, h.hi, h.nm, fun r hr => by
    obtain ⟨b, o, R, D, h1, h2, h3, h4⟩ := h.row r hr
    refine ⟨b, o, R, D, h1, cell_below hb h2, h3, fun c hc => ?_⟩
    obtain ⟨b', o', k1, k2, k3⟩ := h4 c hc
    exact ⟨b', o', k1, cell_below hb k2, k3⟩⟩

theorem Cau.at_ {w : World} {f : Int} {b o n C : Nat} {L : Nat → Nat} {Z : Nat → Nat → Int} (h : Cau w f (some ⟨b, o, none⟩) n C L Z) (r : Nat) (hr : r < n) :
    ∃ R D, w.cell? ⟨b, o + r, none⟩ = some (.slice R (L r) D) ∧ L r ≤ 9223372036854775807 ∧
    ∀ c, c < L r → ∃ b' o', R = some ⟨b', o', none⟩ ∧ w.cell? ⟨b', o' + c, none⟩ = some (.int .i64 (Z r c)) ∧ -9223372036854775808 ≤ Z r c ∧ Z r c ≤ 9223372036854775807 := by
  obtain ⟨b', o', R, D, h1, h2⟩ := h.row r hr
  injection h1 with h1
  injection h1 with e1 e2 e3
  subst e1 e2
  exact ⟨R, D, h2⟩

/-- the causes are right -/
def CauOk (f : Int) (n : Nat) (L : Nat → Nat) (Z : Nat → Nat → Int) : Prop :=
  1 ≤ n ∧ n ≤ 8 ∧ 0 ≤ f ∧ f ≤ 130 ∧ 1 ≤ L 0 ∧ (L 0 : Int) ≤ 131 - f ∧ ∀ r, r < n → L r = L 0 ∧ ∀ c, c < L 0 → 0 ≤ Z r c ∧ Z r c ≤ 10000000

open Classical in
noncomputable def ckE (f : Int) (n : Nat) (L : Nat → Nat) (Z : Nat → Nat → Int) : Int := if CauOk f n L Z then 0 else 150
theorem ckE_ok {f : Int} {n : Nat} {L : Nat → Nat} {Z : Nat → Nat → Int} (h : CauOk f n L Z) : ckE f n L Z = 0 := if_pos h
theorem ckE_no {f : Int} {n : Nat} {L : Nat → Nat} {Z : Nat → Nat → Int} (h : ¬ CauOk f n L Z) : ckE f n L Z = 150 := if_neg h
/-- up to row j, cell k all is right -/
def CauTo (n : Nat) (L : Nat → Nat) (Z : Nat → Nat → Int) (j : Nat) : Prop := ∀ r, r < j → L r = L 0 ∧ ∀ c, c < L 0 → 0 ≤ Z r c ∧ Z r c ≤ 10000000

set_option maxRecDepth 100000 in
set_option maxHeartbeats 4000000 in
theorem check1_calls (f : Int) (A : Option Addr) (n C : Nat) (L : Nat → Nat) (Z : Nat → Nat → Int) (w : World) (h : Cau w f A n C L Z) :
    Calls Try.prog 28 #[.agg #[.int .i64 f, .slice A n C]] w fun e w' => e = .returned (.int .i64 (ckE f n L Z)) ∧ Below w.heap.size w w' := by
  have hlo := h.lo
  have hhi := h.hi
  have hnm := h.nm
  have HC := Sd.mk h
  clear h
  by_cases g : 1 ≤ n ∧ n ≤ 8 ∧ 0 ≤ f ∧ f ≤ 130
  · obtain ⟨g1, g2, g3, g4⟩ := g
    obtain ⟨b, o, R, D, rfl, h1, h2, _⟩ := HC.out.row 0 (by omega)
    rw [Nat.add_zero] at h1
    have HH1 := Sd.mk h1
    have h1' := fun (x : Obj) => cell_below ((Below.refl w.heap.size w).alloc (Nat.le_refl _) x) h1
    have z0 : (0 : Int) < (n : Int) := by omega
    obtain ⟨m, hm⟩ : ∃ m, m = L 0 := ⟨_, rfl⟩
    rw [← hm] at h1' h2
    have HM := Sd.mk hm
    clear h1 hm
    by_cases g5 : m < 1
    · have HN : Sd (¬ CauOk f n L Z) := ⟨fun h => by have := h.2.2.2.2.1; have := HM.out; omega⟩
      go_enter Try.func28, Try.ntmps28
      go_wp2
      go_ret
      exact ⟨ret_int (ckE_no HN.out), (Below.refl _ _).alloc (Nat.le_refl _) _⟩
    · by_cases g6 : 131 - f < (m : Int)
      · have HN : Sd (¬ CauOk f n L Z) := ⟨fun h => by have := h.2.2.2.2.2.1; have := HM.out; omega⟩
        go_enter Try.func28, Try.ntmps28
        go_wp2
        go_ret
        exact ⟨ret_int (ckE_no HN.out), (Below.refl _ _).alloc (Nat.le_refl _) _⟩
      · go_enter Try.func28, Try.ntmps28
        go_wp2_with fail
        go_loopw [45] (fun i wr => ∃ j : Nat, j ≤ n ∧ i = .int .i64 (j : Int) ∧ Sd (CauTo n L Z j) ∧ Sd (Below w.heap.size w wr)) (fun i _ => n - (intOf i).toNat)
        case atStart => exact ⟨0, Nat.zero_le _, rfl, ⟨fun r hr => by omega⟩, ⟨(Below.refl _ _).alloc (Nat.le_refl _) _⟩⟩
        case round =>
          obtain ⟨j, hj, rfl, HT, HB⟩ := hrel
          obtain ⟨wo, rfl⟩ : ∃ wo : World, wo = wr := ⟨_, rfl⟩
          by_cases hjn : j < n
          · obtain ⟨R1, D1, k1, k2, k3⟩ := HC.out.at_ j hjn
            have k1' := cell_below HB.out k1
            obtain ⟨m1, hm1⟩ : ∃ m1, m1 = L j := ⟨_, rfl⟩
            have HK := Sd.mk k3
            rw [← hm1] at k1' k2
            have HM1 := Sd.mk hm1
            clear k1 k3 hm1
            by_cases hmm : m1 = m
            · have z1 : ((m1 : Int) != (m : Int)) = false := by simp [hmm]
              have HMM := Sd.mk hmm
              clear hmm
              go_wp2_with fail
              go_loopw [55] (fun i wr => ∃ k : Nat, k ≤ m1 ∧ i = .int .i64 (k : Int) ∧ Sd (∀ c, c < k → 0 ≤ Z j c ∧ Z j c ≤ 10000000) ∧ Sd (Below w.heap.size w wr)) (fun i _ => m1 - (intOf i).toNat)
              case atStart => exact ⟨0, Nat.zero_le _, rfl, ⟨fun r hr => by omega⟩, HB⟩
              case round =>
                obtain ⟨k, hk, rfl, HU, HB1⟩ := hrel
                obtain ⟨wo1, rfl⟩ : ∃ wo1 : World, wo1 = wr := ⟨_, rfl⟩
                by_cases hkm : k < m1
                · obtain ⟨b2, o2, rfl, l1, l2, l3⟩ := HK.out k (by have := HM1.out; omega)
                  have l1' := cell_below HB1.out l1
                  have HZ : Sd (∃ z, z = Z j k) := ⟨_, rfl⟩
                  obtain ⟨z, hz⟩ := HZ.out
                  rw [← hz] at l1' l2 l3
                  have HZ := Sd.mk hz
                  clear l1 hz
                  by_cases q1 : z < 0
                  · have HN : Sd (¬ CauOk f n L Z) := ⟨fun h => by have := ((h.2.2.2.2.2.2 j hjn).2 k (by have := HM1.out; have := HMM.out; have := HM.out; omega)).1; have := HZ.out; omega⟩
                    go_wp2
                    go_ret
                    exact ⟨ret_int (ckE_no HN.out), HB1.out⟩
                  · by_cases q2 : 10000000 < z
                    · have HN : Sd (¬ CauOk f n L Z) := ⟨fun h => by have := ((h.2.2.2.2.2.2 j hjn).2 k (by have := HM1.out; have := HMM.out; have := HM.out; omega)).2; have := HZ.out; omega⟩
                      go_wp2
                      go_ret
                      exact ⟨ret_int (ckE_no HN.out), HB1.out⟩
                    · go_wp2
                      refine ⟨⟨k + 1, by omega, rfl, ⟨fun c hc => ?_⟩, HB1⟩, by simp [intOf]; omega⟩
                      by_cases hck : c = k
                      · subst hck; rw [← HZ.out]; omega
                      · exact HU.out c (by omega)
                · go_wp2
                  refine ⟨⟨j + 1, by omega, rfl, ⟨fun r hr => ?_⟩, HB1⟩, by simp [intOf]; omega⟩
                  by_cases hrj : r = j
                  · subst hrj; exact ⟨by rw [← HM1.out, HMM.out, HM.out], fun c hc => HU.out c (by have := HM.out; have := HMM.out; omega)⟩
                  · exact HT.out r (by omega)
            · have z1 : ((m1 : Int) != (m : Int)) = true := by simp; omega
              have HN : Sd (¬ CauOk f n L Z) := ⟨fun h => by have := (h.2.2.2.2.2.2 j hjn).1; have := HM1.out; have := HM.out; omega⟩
              clear hmm
              go_wp2
              go_ret
              exact ⟨ret_int (ckE_no HN.out), HB.out⟩
          · have HY : Sd (CauOk f n L Z) := ⟨⟨g1, g2, g3, g4, by have := HM.out; omega, by have := HM.out; omega, fun r hr => HT.out r (by omega)⟩⟩
            go_wp2
            go_ret
            exact ⟨ret_int (ckE_ok HY.out), HB.out⟩
  · have HN : Sd (¬ CauOk f n L Z) := ⟨fun h => g ⟨h.1, h.2.1, h.2.2.1, h.2.2.2.1⟩⟩
    by_cases g1 : n < 1
    · clear g
      go_enter Try.func28, Try.ntmps28
      go_wp2
      go_ret
      exact ⟨ret_int (ckE_no HN.out), (Below.refl _ _).alloc (Nat.le_refl _) _⟩
    · by_cases g2 : 8 < n
      · clear g
        go_enter Try.func28, Try.ntmps28
        go_wp2
        go_ret
        exact ⟨ret_int (ckE_no HN.out), (Below.refl _ _).alloc (Nat.le_refl _) _⟩
      · by_cases g3 : f < 0
        · clear g
          go_enter Try.func28, Try.ntmps28
          go_wp2
          go_ret
          exact ⟨ret_int (ckE_no HN.out), (Below.refl _ _).alloc (Nat.le_refl _) _⟩
        · have g4 : 130 < f := by omega
          clear g
          go_enter Try.func28, Try.ntmps28
          go_wp2
          go_ret
          exact ⟨ret_int (ckE_no HN.out), (Below.refl _ _).alloc (Nat.le_refl _) _⟩

end Go.Proofs.Ythihdjhnldkdhaa
