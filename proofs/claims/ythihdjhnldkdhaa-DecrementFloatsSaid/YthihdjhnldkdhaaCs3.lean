/- Causes and an age, read: what is told of them. -/
import Derived.Test.YthihdjhnldkdhaaCs2
set_option linter.unusedVariables false
set_option linter.unusedSimpArgs false
namespace Go.Proofs.Ythihdjhnldkdhaa
open Go.RowKit Dig

theorem box_cell0 (w : World) (x y : Value) (t : TypeId) : (w.alloc (.cells #[x, y] t)).cell? ⟨w.heap.size, 0, none⟩ = some x := by
  simp

theorem below_dr {w w1 : World} (h : Below w.heap.size w w1) (k : Nat) : Below w.heap.size w (w1.drewN k) := ⟨h.os, h.tape, h.output, h.size, h.block⟩

theorem below_box {w w1 : World} {O : Obj} (h : Below (w.alloc O).heap.size (w.alloc O) w1) : Below w.heap.size w w1 := Below.tr ((Below.refl w.heap.size w).alloc (Nat.le_refl _) O) h

set_option maxRecDepth 100000 in
set_option maxHeartbeats 4000000 in
theorem last1_calls (f : Int) (A : Option Addr) (n C : Nat) (L : Nat → Nat) (Z : Nat → Nat → Int) (w : World) (h : Cau w f A n C L Z) (hn : 1 ≤ n) (hf0 : 0 ≤ f) (hf1 : f ≤ 130) (hl0 : 1 ≤ L 0) (hl1 : L 0 ≤ 131) :
    Calls Try.prog 24 #[.agg #[.int .i64 f, .slice A n C]] w fun e w' => e = .returned (.int .i64 (f + (L 0 : Int) - 1)) ∧ Below w.heap.size w w' := by
  obtain ⟨b, o, R, D, rfl, h1, h2, _⟩ := h.row 0 (by omega)
  rw [Nat.add_zero] at h1
  have h1' := fun (x : Obj) => cell_below ((Below.refl w.heap.size w).alloc (Nat.le_refl _) x) h1
  have hnm := h.nm
  have z0 : (0 : Int) < (n : Int) := by omega
  obtain ⟨m, hm⟩ : ∃ m, m = L 0 := ⟨_, rfl⟩
  rw [← hm] at h1' h2 hl0 hl1 ⊢
  clear h1 h hm
  go_enter Try.func24, Try.ntmps24
  go_wp2_with fail
  go_quiet (fail)
  go_wp2
  go_ret
  exact ⟨rfl, below_dr ((Below.refl _ _).alloc (Nat.le_refl _) _) _⟩

set_option maxRecDepth 100000 in
set_option maxHeartbeats 4000000 in
theorem last2_calls (f : Int) (A : Option Addr) (n C : Nat) (L : Nat → Nat) (Z : Nat → Nat → Int) (w : World) (h : Cau w f A n C L Z) (hn : 1 ≤ n) (hf0 : 0 ≤ f) (hf1 : f ≤ 130) (hl0 : 1 ≤ L 0) (hl1 : L 0 ≤ 131) :
    Calls Try.prog 26 #[.agg #[.int .i64 f, .slice A n C]] w fun e w' => e = .returned (.int .i64 (f + (L 0 : Int) - 1)) ∧ Below w.heap.size w w' := by
  obtain ⟨b, o, R, D, rfl, h1, h2, _⟩ := h.row 0 (by omega)
  rw [Nat.add_zero] at h1
  have h1' := fun (x : Obj) => cell_below ((Below.refl w.heap.size w).alloc (Nat.le_refl _) x) h1
  have hnm := h.nm
  have z0 : (0 : Int) < (n : Int) := by omega
  obtain ⟨m, hm⟩ : ∃ m, m = L 0 := ⟨_, rfl⟩
  rw [← hm] at h1' h2 hl0 hl1 ⊢
  clear h1 h hm
  go_enter Try.func26, Try.ntmps26
  go_wp2_with fail
  go_quiet (fail)
  go_wp2
  go_ret
  exact ⟨rfl, below_dr ((Below.refl _ _).alloc (Nat.le_refl _) _) _⟩

open Classical in
/-- what is wrong with causes and an age -/
noncomputable def agE (f : Int) (n : Nat) (L : Nat → Nat) (Z : Nat → Nat → Int) (age : Int) : Int := if CauOk f n L Z then (if age < f ∨ f + (L 0 : Int) - 1 < age then 8 else 0) else 150
theorem agE_no {f : Int} {n : Nat} {L : Nat → Nat} {Z : Nat → Nat → Int} {age : Int} (h : ¬ CauOk f n L Z) : agE f n L Z age = 150 := if_neg h
theorem agE_lo {f : Int} {n : Nat} {L : Nat → Nat} {Z : Nat → Nat → Int} {age : Int} (h : CauOk f n L Z) (h1 : age < f ∨ f + (L 0 : Int) - 1 < age) : agE f n L Z age = 8 := by unfold agE; rw [if_pos h, if_pos h1]
theorem agE_ok {f : Int} {n : Nat} {L : Nat → Nat} {Z : Nat → Nat → Int} {age : Int} (h : CauOk f n L Z) (h1 : ¬ (age < f ∨ f + (L 0 : Int) - 1 < age)) : agE f n L Z age = 0 := by unfold agE; rw [if_pos h, if_neg h1]

set_option maxRecDepth 100000 in
set_option maxHeartbeats 4000000 in
theorem aged_calls (f : Int) (A : Option Addr) (n C : Nat) (L : Nat → Nat) (Z : Nat → Nat → Int) (age : Int) (w : World) (h : Cau w f A n C L Z) (ha0 : -9223372036854775808 ≤ age) (ha1 : age ≤ 9223372036854775807) :
    Calls Try.prog 23 #[.agg #[.int .i64 f, .slice A n C], .int .i64 age] w fun e w' => e = .returned (.int .i64 (agE f n L Z age)) ∧ Below w.heap.size w w' := by
  have HH := Sd.mk (fun (x : Obj) => h.below ((Below.refl w.heap.size w).alloc (Nat.le_refl _) x))
  clear h
  go_enter Try.func23, Try.ntmps23
  go_wp2_with fail
  refine (check1_calls f A n C L Z _ (HH.out _)).mono ?_
  rintro e w1 ⟨rfl, hb1⟩
  have HB1 := Sd.mk hb1
  have hc0 := cell_below hb1 (box_cell0 _ _ _ _)
  have hc1 := cell_below hb1 (box_cell _ _ _ _)
  have HH1 := Sd.mk ((HH.out _).below hb1)
  clear hb1
  by_cases hok : CauOk f n L Z
  · rw [ckE_ok hok]
    have h1 := hok.1
    have h2 := hok.2.2.1
    have h3 := hok.2.2.2.1
    have h4 := hok.2.2.2.2.1
    have h5 := hok.2.2.2.2.2.1
    have HO := Sd.mk hok
    clear hok
    by_cases ha : age < f
    · go_wp2_with fail
      go_ret
      exact ⟨ret_int (agE_lo HO.out (.inl ha)), below_box HB1.out⟩
    · obtain ⟨m, hm⟩ : ∃ m, m = f + (L 0 : Int) - 1 := ⟨_, rfl⟩
      have HM := Sd.mk hm
      clear hm
      go_wp2_with fail
      refine (last1_calls f A n C L Z _ HH1.out h1 h2 h3 h4 (by omega)).mono ?_
      rintro e w2 ⟨rfl, hb2⟩
      have HB2 := Sd.mk (Below.tr (below_box HB1.out) hb2)
      rw [← HM.out]
      clear hb2
      by_cases hl : m < age
      · go_wp2_with fail
        go_ret
        exact ⟨ret_int (agE_lo HO.out (.inr (by rw [← HM.out]; exact hl))), HB2.out⟩
      · go_wp2_with fail
        go_ret
        exact ⟨ret_int (agE_ok HO.out (by rw [← HM.out]; omega)), HB2.out⟩
  · rw [ckE_no hok]
    have HO := Sd.mk hok
    clear hok
    go_wp2_with fail
    go_ret
    exact ⟨ret_int (agE_no HO.out), below_box HB1.out⟩

set_option maxRecDepth 100000 in
set_option maxHeartbeats 4000000 in
theorem wrong_calls (f : Int) (A : Option Addr) (n C : Nat) (L : Nat → Nat) (Z : Nat → Nat → Int) (age : Int) (w : World) (h : Cau w f A n C L Z) (ha0 : -9223372036854775808 ≤ age) (ha1 : age ≤ 9223372036854775807) :
    Calls Try.prog 25 #[.agg #[.int .i64 f, .slice A n C], .int .i64 age] w fun e w' => e = .returned (.int .i64 (agE f n L Z age)) ∧ Below w.heap.size w w' := by
  have HH := Sd.mk (fun (x : Obj) => h.below ((Below.refl w.heap.size w).alloc (Nat.le_refl _) x))
  clear h
  go_enter Try.func25, Try.ntmps25
  go_wp2_with fail
  refine (check2_calls f A n C L Z _ (HH.out _)).mono ?_
  rintro e w1 ⟨rfl, hb1⟩
  have HB1 := Sd.mk hb1
  have hc0 := cell_below hb1 (box_cell0 _ _ _ _)
  have hc1 := cell_below hb1 (box_cell _ _ _ _)
  have HH1 := Sd.mk ((HH.out _).below hb1)
  clear hb1
  by_cases hok : CauOk f n L Z
  · rw [ckE_ok hok]
    have h1 := hok.1
    have h2 := hok.2.2.1
    have h3 := hok.2.2.2.1
    have h4 := hok.2.2.2.2.1
    have h5 := hok.2.2.2.2.2.1
    have HO := Sd.mk hok
    clear hok
    by_cases ha : age < f
    · go_wp2_with fail
      go_ret
      exact ⟨ret_int (agE_lo HO.out (.inl ha)), below_box HB1.out⟩
    · obtain ⟨m, hm⟩ : ∃ m, m = f + (L 0 : Int) - 1 := ⟨_, rfl⟩
      have HM := Sd.mk hm
      clear hm
      go_wp2_with fail
      refine (last2_calls f A n C L Z _ HH1.out h1 h2 h3 h4 (by omega)).mono ?_
      rintro e w2 ⟨rfl, hb2⟩
      have HB2 := Sd.mk (Below.tr (below_box HB1.out) hb2)
      rw [← HM.out]
      clear hb2
      by_cases hl : m < age
      · go_wp2_with fail
        go_ret
        exact ⟨ret_int (agE_lo HO.out (.inr (by rw [← HM.out]; exact hl))), HB2.out⟩
      · go_wp2_with fail
        go_ret
        exact ⟨ret_int (agE_ok HO.out (by rw [← HM.out]; omega)), HB2.out⟩
  · rw [ckE_no hok]
    have HO := Sd.mk hok
    clear hok
    go_wp2_with fail
    go_ret
    exact ⟨ret_int (agE_no HO.out), below_box HB1.out⟩

end Go.Proofs.Ythihdjhnldkdhaa
