/- Causes, read: the document's check. -/
import Derived.Test.YthihdjhnldkdhaaCs
set_option linter.unusedVariables false
set_option linter.unusedSimpArgs false
namespace Go.Proofs.Ythihdjhnldkdhaa
open Go.RowKit Dig

theorem box_cell (w : World) (x y : Value) (t : TypeId) : (w.alloc (.cells #[x, y] t)).cell? ⟨w.heap.size, 1, none⟩ = some y := by
  simp

set_option maxRecDepth 100000 in
set_option maxHeartbeats 4000000 in
theorem check2_calls (f : Int) (A : Option Addr) (n C : Nat) (L : Nat → Nat) (Z : Nat → Nat → Int) (w : World) (h : Cau w f A n C L Z) :
    Calls Try.prog 43 #[.agg #[.int .i64 f, .slice A n C]] w fun e w' => e = .returned (.int .i64 (ckE f n L Z)) ∧ Below w.heap.size w w' := by
  have hlo := h.lo
  have hhi := h.hi
  have hnm := h.nm
  have HC := Sd.mk h
  clear h
  by_cases g : 1 ≤ n ∧ n ≤ 8 ∧ 0 ≤ f ∧ f ≤ 130
  · obtain ⟨g1, g2, g3, g4⟩ := g
    obtain ⟨b, o, R, D, rfl, h1, h2, _⟩ := HC.out.row 0 (by omega)
    rw [Nat.add_zero] at h1
    have HH1 := Sd.mk h1
    have h1' := fun (x : Obj) => cell_below ((Below.refl w.heap.size w).alloc (Nat.le_refl _) x) h1
    have z0 : (0 : Int) < (n : Int) := by omega
    obtain ⟨m, hm⟩ : ∃ m, m = L 0 := ⟨_, rfl⟩
    rw [← hm] at h1' h2
    have HM := Sd.mk hm
    clear h1 hm
    by_cases g5 : m < 1
    · have HN : Sd (¬ CauOk f n L Z) := ⟨fun h => by have := h.2.2.2.2.1; have := HM.out; omega⟩
      go_enter Try.func43, Try.ntmps43
      go_wp2
      go_ret
      exact ⟨ret_int (ckE_no HN.out), (Below.refl _ _).alloc (Nat.le_refl _) _⟩
    · by_cases g6 : 131 - f < (m : Int)
      · have HN : Sd (¬ CauOk f n L Z) := ⟨fun h => by have := h.2.2.2.2.2.1; have := HM.out; omega⟩
        go_enter Try.func43, Try.ntmps43
        go_wp2
        go_ret
        exact ⟨ret_int (ckE_no HN.out), (Below.refl _ _).alloc (Nat.le_refl _) _⟩
      · go_enter Try.func43, Try.ntmps43
        go_wp2_with fail
        go_loopw [4] (fun i wr => ∃ j : Nat, j ≤ n ∧ i = .int .i64 (j : Int) ∧ Sd (CauTo n L Z j) ∧ Sd (Below w.heap.size w wr) ∧ Sd (wr.cell? ⟨w.heap.size, 1, none⟩ = some (.slice (some ⟨b, o, none⟩) n C))) (fun i _ => n - (intOf i).toNat)
        case atStart => exact ⟨0, Nat.zero_le _, rfl, ⟨fun r hr => by omega⟩, ⟨(Below.refl _ _).alloc (Nat.le_refl _) _⟩, ⟨box_cell _ _ _ _⟩⟩
        case round =>
          obtain ⟨j, hj, rfl, HT, HB, HX⟩ := hrel
          have hbx := HX.out
          obtain ⟨wo, rfl⟩ : ∃ wo : World, wo = wr := ⟨_, rfl⟩
          by_cases hjn : j < n
          · obtain ⟨R1, D1, k1, k2, k3⟩ := HC.out.at_ j hjn
            have k1' := cell_below HB.out k1
            have HK1 := Sd.mk k1
            obtain ⟨m1, hm1⟩ : ∃ m1, m1 = L j := ⟨_, rfl⟩
            have HK := Sd.mk k3
            rw [← hm1] at k1' k2 HK1
            have HM1 := Sd.mk hm1
            clear k1 k3 hm1
            by_cases hmm : m1 = m
            · have z1 : ((m1 : Int) != (m : Int)) = false := by simp [hmm]
              have HMM := Sd.mk hmm
              clear hmm
              go_wp2_with fail
              go_loopw [5] (fun i wr => ∃ k : Nat, k ≤ m1 ∧ i = .int .i64 (k : Int) ∧ Sd (∀ c, c < k → 0 ≤ Z j c ∧ Z j c ≤ 10000000) ∧ Sd (Below w.heap.size w wr) ∧ Sd (wr.cell? ⟨w.heap.size, 1, none⟩ = some (.slice (some ⟨b, o, none⟩) n C))) (fun i _ => m1 - (intOf i).toNat)
              case atStart => exact ⟨0, Nat.zero_le _, rfl, ⟨fun r hr => by omega⟩, HB, HX⟩
              case round =>
                obtain ⟨k, hk, rfl, HU, HB1, HX1⟩ := hrel
                have hbx1 := HX1.out
                obtain ⟨wo1, rfl⟩ : ∃ wo1 : World, wo1 = wr := ⟨_, rfl⟩
                by_cases hkm : k < m1
                · have hkm2 : k < m := by have := HMM.out; omega
                  obtain ⟨b2, o2, rfl, l1, l2, l3⟩ := HK.out k (by have := HM1.out; omega)
                  have l1' := cell_below HB1.out l1
                  have k1' := cell_below HB1.out HK1.out
                  have HZ : Sd (∃ z, z = Z j k) := ⟨_, rfl⟩
                  obtain ⟨z, hz⟩ := HZ.out
                  rw [← hz] at l1' l2 l3
                  have HZ := Sd.mk hz
                  clear l1 hz
                  by_cases q1 : z < 0
                  · have HN : Sd (¬ CauOk f n L Z) := ⟨fun h => by have := ((h.2.2.2.2.2.2 j hjn).2 k (by have := HM1.out; have := HMM.out; have := HM.out; omega)).1; have := HZ.out; omega⟩
                    go_wp2
                    go_ret
                    exact ⟨ret_int (ckE_no HN.out), HB1.out⟩
                  · by_cases q2 : 10000000 < z
                    · have HN : Sd (¬ CauOk f n L Z) := ⟨fun h => by have := ((h.2.2.2.2.2.2 j hjn).2 k (by have := HM1.out; have := HMM.out; have := HM.out; omega)).2; have := HZ.out; omega⟩
                      go_wp2
                      go_ret
                      exact ⟨ret_int (ckE_no HN.out), HB1.out⟩
                    · go_wp2
                      refine ⟨⟨k + 1, by omega, rfl, ⟨fun c hc => ?_⟩, HB1, HX1⟩, by simp [intOf]; omega⟩
                      by_cases hck : c = k
                      · subst hck; rw [← HZ.out]; omega
                      · exact HU.out c (by omega)
                · have hkm2 : ¬ k < m := by have := HMM.out; omega
                  go_wp2
                  refine ⟨⟨j + 1, by omega, rfl, ⟨fun r hr => ?_⟩, HB1, HX1⟩, by simp [intOf]; omega⟩
                  by_cases hrj : r = j
                  · subst hrj; exact ⟨by rw [← HM1.out, HMM.out, HM.out], fun c hc => HU.out c (by have := HM.out; have := HMM.out; omega)⟩
                  · exact HT.out r (by omega)
            · have z1 : ((m1 : Int) != (m : Int)) = true := by simp; omega
              have HN : Sd (¬ CauOk f n L Z) := ⟨fun h => by have := (h.2.2.2.2.2.2 j hjn).1; have := HM1.out; have := HM.out; omega⟩
              clear hmm
              go_wp2
              go_ret
              exact ⟨ret_int (ckE_no HN.out), HB.out⟩
          · have HY : Sd (CauOk f n L Z) := ⟨⟨g1, g2, g3, g4, by have := HM.out; omega, by have := HM.out; omega, fun r hr => HT.out r (by omega)⟩⟩
            go_wp2
            go_ret
            exact ⟨ret_int (ckE_ok HY.out), HB.out⟩
  · have HN : Sd (¬ CauOk f n L Z) := ⟨fun h => g ⟨h.1, h.2.1, h.2.2.1, h.2.2.2.1⟩⟩
    by_cases g1 : n < 1
    · clear g
      go_enter Try.func43, Try.ntmps43
      go_wp2
      go_ret
      exact ⟨ret_int (ckE_no HN.out), (Below.refl _ _).alloc (Nat.le_refl _) _⟩
    · by_cases g2 : 8 < n
      · clear g
        go_enter Try.func43, Try.ntmps43
        go_wp2
        go_ret
        exact ⟨ret_int (ckE_no HN.out), (Below.refl _ _).alloc (Nat.le_refl _) _⟩
      · by_cases g3 : f < 0
        · clear g
          go_enter Try.func43, Try.ntmps43
          go_wp2
          go_ret
          exact ⟨ret_int (ckE_no HN.out), (Below.refl _ _).alloc (Nat.le_refl _) _⟩
        · have g4 : 130 < f := by omega
          clear g
          go_enter Try.func43, Try.ntmps43
          go_wp2
          go_ret
          exact ⟨ret_int (ckE_no HN.out), (Below.refl _ _).alloc (Nat.le_refl _) _⟩

end Go.Proofs.Ythihdjhnldkdhaa
