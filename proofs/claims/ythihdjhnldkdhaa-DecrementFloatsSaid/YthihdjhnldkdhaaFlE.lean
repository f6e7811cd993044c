/- DecrementFloats: the walk of the law. -/
import Derived.Test.YthihdjhnldkdhaaFlD
set_option linter.unusedVariables false
set_option linter.unusedSimpArgs false
namespace Go.Proofs.Ythihdjhnldkdhaa
open Go.RowKit Dig Fl

theorem Fls.below {w w1 : World} {v : Value} {l : List Nat} (h : Fls w v l) (hb : Below w.heap.size w w1) : Fls w1 v l := ownsRow_below h hb

theorem flE_len (f : Int) (n : Nat) (L : Nat → Nat) (Z : Nat → Nat → Int) (age : Int) (x : Nat) : (flE f n L Z age x).2.length ≤ 1000 := by
  by_cases h1 : agE f n L Z age = 0
  · have h2 := (agE_inv h1).1
    have h3 := h2.2.2.2.2.2.1
    have h4 := h2.2.2.1
    unfold flE
    rw [if_neg (by rw [h1]; simp)]
    split
    · simp
    · split
      · simp
      · simp; omega
  · rw [flE_e h1]; simp

set_option maxRecDepth 100000 in
set_option maxHeartbeats 2000000 in
theorem law_calls (f : Int) (A : Option Addr) (n C : Nat) (L : Nat → Nat) (Z : Nat → Nat → Int) (age : Int) (x : Nat) (w : World) (h : Cau w f A n C L Z) (ha0 : -9223372036854775808 ≤ age) (ha1 : age ≤ 9223372036854775807) (hx : x < 18446744073709551616) :
    Calls Try.prog 3 #[.agg #[.int .i64 f, .slice A n C], .int .i64 age, .float .f64 x] w fun e w' => e = .returned (.bool true) ∧ Below w.heap.size w w' := by
  have HH := Sd.mk (show Cau (bx w f A n C) f A n C L Z from h.below ((Below.refl w.heap.size w).alloc (Nat.le_refl _) _))
  have HX := Sd.mk hx
  have HLN := Sd.mk (flE_len f n L Z age x)
  clear h hx
  obtain ⟨r, hr⟩ : ∃ r, r = flE f n L Z age x := ⟨_, rfl⟩
  have HR := Sd.mk hr
  obtain ⟨k, l⟩ := r
  clear hr
  go_enter Try.func3, Try.ntmps3
  go_wp2_with fail
  refine (floats1_calls f A n C L Z age x _ HH.out ha0 ha1 HX.out).mono ?_
  rintro e w1 ⟨v1, rfl, hv1, hb1⟩
  rw [← HR.out] at hv1 ⊢
  have HB1 := Sd.mk (show Below (bx w f A n C).heap.size (bx w f A n C) w1 from hb1)
  have HV1 := Sd.mk hv1
  have hc0 := cell_below hb1 (box_cell0 _ _ _ _)
  have hc1 := cell_below hb1 (box_cell _ _ _ _)
  clear hb1 hv1
  go_wp2_with fail
  refine (floats2_calls f A n C L Z age x _ (HH.out.below HB1.out) ha0 ha1 HX.out).mono ?_
  rintro e w2 ⟨v2, rfl, hv2, hb2⟩
  rw [← HR.out] at hv2 ⊢
  have HB2 := Sd.mk (show Below (bx w f A n C).heap.size (bx w f A n C) w2 from Below.tr HB1.out hb2)
  have HV2 := Sd.mk hv2
  have HV1' := Sd.mk (HV1.out.below hb2)
  clear hb2 hv2 hc0 hc1
  go_wp2_with fail
  refine (sames_calls v1 v2 l _ HV1'.out HV2.out (by have := HLN.out; rw [← HR.out] at this; exact this)).mono ?_
  rintro e w3 ⟨rfl, hd⟩
  have HD := Sd.mk hd
  have zk : (k == k) = true := by simp
  clear hd
  go_wp2
  go_ret
  exact ⟨rfl, below_box (Below.tr HB2.out HD.out.below)⟩

end Go.Proofs.Ythihdjhnldkdhaa
