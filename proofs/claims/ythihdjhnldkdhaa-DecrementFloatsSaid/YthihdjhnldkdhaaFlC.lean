/- Those who are still there, in floats: the document's walk. -/
import Derived.Test.YthihdjhnldkdhaaFlB
set_option linter.unusedVariables false
set_option linter.unusedSimpArgs false
namespace Go.Proofs.Ythihdjhnldkdhaa
open Go.RowKit Dig Fl

theorem own_form {w : World} {base : Nat} {e : TypeId} {size n : Nat} {v : Value} {xs : List Value} (h : w.ownsRow base e size v n xs) (hn : 0 < n) : ∃ g cap, v = .slice (some ⟨g, 0, none⟩) n cap := by
  rcases h.2 with ⟨rfl, h0⟩ | ⟨g, cap, cur, rfl, _⟩
  · omega
  · exact ⟨g, cap, rfl⟩

set_option maxRecDepth 100000 in
set_option maxHeartbeats 4000000 in
theorem floats2_calls (f : Int) (A : Option Addr) (n C : Nat) (L : Nat → Nat) (Z : Nat → Nat → Int) (age : Int) (x : Nat) (w : World) (h : Cau w f A n C L Z) (ha0 : -9223372036854775808 ≤ age) (ha1 : age ≤ 9223372036854775807) (hx : x < 18446744073709551616) :
    Calls Try.prog 7 #[.agg #[.int .i64 f, .slice A n C], .int .i64 age, .float .f64 x] w fun e w' => ∃ v, e = .returned (.tuple #[v, .int .i64 (flE f n L Z age x).1]) ∧ Fls w' v (flE f n L Z age x).2 ∧ Below w.heap.size w w' := by
  obtain ⟨i0, hi, hz0, hz1, hz2⟩ := info_parts Try.infoF
  have HH := Sd.mk (show Cau (bx w f A n C) f A n C L Z from h.below ((Below.refl w.heap.size w).alloc (Nat.le_refl _) _))
  have HX := Sd.mk hx
  clear h hx
  go_enter Try.func7, Try.ntmps7
  go_wp2_with fail
  refine (wrong_calls f A n C L Z age _ HH.out ha0 ha1).mono ?_
  rintro e w1 ⟨rfl, hb1⟩
  have HB1 := Sd.mk (show Below (bx w f A n C).heap.size (bx w f A n C) w1 from hb1)
  clear hb1
  by_cases he : agE f n L Z age = 0
  · have HE := Sd.mk he
    rw [he]
    clear he
    by_cases hs : Ieee.Format.sub Ieee.double x x = none
    · have hr := fun (t : TypeId) (w : World) => run_sub_nan (P := Try.prog) (t := t) hs w
      have hq := fun (w : World) (z : Nat) => nanB_neq w x x z
      have HS := Sd.mk hs
      clear hs
      go_wp2_with fail
      go_ret2
      rw [flE_nan HE.out HS.out]
      exact ⟨_, rfl, Fls.nil _, (below_box HB1.out).drew⟩
    · obtain ⟨s, g, hsg, hg⟩ := word_of x HX.out
      have hfin : g < 9218868437227405312 := word_sub s g hg (by rw [← hsg]; exact hs)
      have hr := fun (t : TypeId) (w : World) => run_float_arith (P := Try.prog) w .sub t .f64 x x 0 (by rw [hsg]; exact sub_self_d s g hfin)
      have hz : (FloatKind.f64.format.order 0 0 != some .eq) = false := by decide +kernel
      have HS := Sd.mk hs
      have HG := Sd.mk hsg
      have HF := Sd.mk hfin
      clear hs hsg hg hfin
      by_cases hn : (FloatKind.f64.format.order x 0 == some .lt) = true
      · go_wp2_with fail
        go_ret2
        rw [flE_neg HE.out HS.out hn]
        exact ⟨_, rfl, Fls.nil _, below_box HB1.out⟩
      · have HN := Sd.mk hn
        have hn' : (FloatKind.f64.format.order x 0 == some .lt) = false := by simpa using hn
        obtain ⟨hok, hlo, hhi⟩ := agE_inv HE.out
        have hc0 := cell_below HB1.out (box_cell0 _ _ _ _)
        have hc1 := cell_below HB1.out (box_cell _ _ _ _)
        clear hn
        go_wp2_with fail
        obtain ⟨n1, n2, n3, n4, n5, n6, n7⟩ := hok
        obtain ⟨c0, hc0'⟩ : ∃ c0, c0 = (age - f).toNat := ⟨_, rfl⟩
        obtain ⟨l0, hl0⟩ : ∃ l0, l0 = L 0 := ⟨_, rfl⟩
        rw [← hl0] at n5 n6 hhi
        have HC0 := Sd.mk hc0'
        have HL0 := Sd.mk hl0
        have HR : Sd (∀ c, c < l0 → ∀ d, d < n → 0 ≤ Z d c ∧ Z d c ≤ 10000000) := ⟨fun c hc d hd => (n7 d hd).2 c (by rw [← hl0]; exact hc)⟩
        have HLL : Sd (∀ d, d < n → L d = l0) := ⟨fun d hd => by rw [(n7 d hd).1, hl0]⟩
        have hcl : c0 < l0 := by omega
        have hag : age = f + (c0 : Int) := by omega
        have HAG := Sd.mk hag
        have hB1 : (bx w f A n C).heap.size ≤ w1.heap.size := HB1.out.size
        have HSZ := Sd.mk hB1
        clear n7 hc0' hl0 hag hB1 hc0 hc1
        go_loopg [9, 10] (l0 + 1) (fun N out a wr => ∃ (k y g1 cap : Nat), out = .slice (some ⟨g1, 0, none⟩) (k + 1) cap ∧ a = .int .i64 (k : Int) ∧ c0 + k ≤ l0 ∧ Sd (y = rad Z n c0 x k) ∧ Sd (l0 - k < N) ∧ Sd (wr.ownsRow (bx w f A n C).heap.size 25 1 (.slice (some ⟨g1, 0, none⟩) (k + 1) cap) (k + 1) (fv (rads Z n c0 x (k + 1)))) ∧ Sd (Below (bx w f A n C).heap.size (bx w f A n C) wr))
        case atStart => exact ⟨0, x, w1.heap.size, 1, rfl, rfl, by omega, ⟨rfl⟩, ⟨by omega⟩, ⟨World.ownsRow_lit w1 #[.float .f64 x] 1 HSZ.out (by decide) rfl⟩, ⟨HB1.out.alloc HSZ.out _⟩⟩
        case round =>
          obtain ⟨k, y, g1, cap, rfl, rfl, hk, HY, HN1, HO, HBr⟩ := hrel
          have hag1 : 0 ≤ age := by have := HAG.out; omega
          have hag2 : age ≤ 1000 := by have := HAG.out; omega
          have hcap : k + 1 ≤ 9223372036854775807 := by omega
          obtain ⟨wo, rfl⟩ : ∃ wo : World, wo = wr := ⟨_, rfl⟩
          have hc0 := cell_below HBr.out (box_cell0 _ _ _ _)
          have hc1 := cell_below HBr.out (box_cell _ _ _ _)
          go_wp2_with fail
          refine (last2_calls f A n C L Z _ (HH.out.below HBr.out) n1 n3 n4 (by rw [← HL0.out]; omega) (by rw [← HL0.out]; omega)).mono ?_
          rintro e w2 ⟨rfl, hb2⟩
          rw [← HL0.out]
          have HO2 := Sd.mk (ownsRow_below HO.out hb2)
          have HB2 := Sd.mk (show Below (bx w f A n C).heap.size (bx w f A n C) w2 from Below.tr HBr.out hb2)
          obtain ⟨m, hm⟩ : ∃ m, m = f + (l0 : Int) - 1 := ⟨_, rfl⟩
          rw [← hm]
          have HMM := Sd.mk hm
          clear hb2 hm hc0 hc1 HBr HO
          have hc0 := cell_below HB2.out (box_cell0 _ _ _ _)
          have hc1 := cell_below HB2.out (box_cell _ _ _ _)
          by_cases hk2 : c0 + k < l0
          · have hle : age + (k : Int) ≤ m := by have := HMM.out; have := HAG.out; omega
            go_wp2_with fail
            go_loopw [11, 12] (fun p i wr => ∃ (d q : Nat), p = .float .f64 q ∧ i = .int .i64 (d : Int) ∧ d ≤ n ∧ Sd (q = pF Z (c0 + k) d) ∧ Drw w2 wr) (fun _ i _ => n - (intOf i).toNat)
            case atStart => exact ⟨0, _, rfl, rfl, Nat.zero_le _, ⟨rfl⟩, Drw.refl _⟩
            case round =>
              obtain ⟨d, q, rfl, rfl, hd, HQ, HD⟩ := hrel
              obtain ⟨wo3, rfl⟩ : ∃ wo3 : World, wo3 = wr := ⟨_, rfl⟩
              have HBB := Sd.mk (show Below (bx w f A n C).heap.size (bx w f A n C) wo3 from Below.tr HB2.out HD.below)
              have hc0 := cell_below HD.below hc0
              have hc1 := cell_below HD.below hc1
              by_cases hdn : d < n
              · obtain ⟨b, o, R1, D1, rfl, k1, k2, k3⟩ := (HH.out.below HBB.out).row d hdn
                obtain ⟨b2, o2, rfl, l1, l2, l3⟩ := k3 (c0 + k) (by rw [HLL.out d hdn]; exact hk2)
                have hcol : age + (k : Int) - f = ((c0 + k : Nat) : Int) := by have := HAG.out; omega
                rw [HLL.out d hdn] at k1 k2
                have HZ2 := HR.out (c0 + k) hk2 d hdn
                obtain ⟨hz1, hz2⟩ := HZ2
                have hdiv := fun (t : TypeId) (w : World) => run_float_arith (P := Try.prog) w .quo t .f64 _ _ _ (fq_le hz1 hz2).1
                have hmul := fun (t : TypeId) (w : World) => run_float_arith (P := Try.prog) w .mul t .f64 q _ _ (by rw [HQ.out]; exact pF_mul (fun d hd => HR.out (c0 + k) hk2 d hd) hdn)
                obtain ⟨q2, hq2⟩ : ∃ q2, q2 = pF Z (c0 + k) (d + 1) := ⟨_, rfl⟩
                rw [← hq2] at hmul
                have HQ2 := Sd.mk hq2
                obtain ⟨fz, hfz⟩ : ∃ fz, fz = fq (Z d (c0 + k)) := ⟨_, rfl⟩
                rw [← hfz] at hdiv hmul
                obtain ⟨z, hz⟩ : ∃ z, z = Z d (c0 + k) := ⟨_, rfl⟩
                rw [← hz] at hdiv l1 hz1 hz2 l2 l3
                obtain ⟨col, hcl2⟩ : ∃ col, col = c0 + k := ⟨_, rfl⟩
                rw [← hcl2] at l1 hcol hk2
                clear hq2 hfz hz hcl2 k3
                go_wp2_with fail
                go_quiet (fail)
                go_wp2_with fail
                exact ⟨⟨d + 1, q2, rfl, rfl, by omega, HQ2, HD.step _⟩, by simp [intOf]; omega⟩
              · have hde : d = n := by omega
                have hmul := fun (t : TypeId) (w : World) => run_float_arith (P := Try.prog) w .mul t .f64 y q _ (by rw [HY.out, HQ.out, hde, HG.out]; exact rad_mul HF.out HR.out hk2)
                rw [← HG.out] at hmul
                obtain ⟨y2, hy2⟩ : ∃ y2, y2 = rad Z n c0 x (k + 1) := ⟨_, rfl⟩
                rw [← hy2] at hmul
                have HY2 := Sd.mk hy2
                have HO3 := Sd.mk (ownsRow_below HO2.out HD.below)
                have hcell3 : wo3.cell? ⟨g1, k, none⟩ = some (.float .f64 y) := by rw [HO3.out.cellAt k (by omega), HY.out]; simp [fv, rads]
                have hkk : (k : Int) < (k : Int) + 1 := by omega
                clear hde hy2
                go_wp2_with (at_builtin; (refine wpList_append_own _ rfl _ _ 26 rfl (bx w f A n C).heap.size 25 i0 (.float .f64 0) 1 8 Try.underlying26 hi hz0 hz1 hz2 rfl (by decide) _ (k + 1) (fv (rads Z n c0 x (k + 1))) rfl (by exact ownsRow_below HO3.out ((Below.refl _ _).alloc (Nat.le_refl _) _)) ⟨wo3.heap.size, 0, none⟩ 1 1 [.float .f64 y2] rfl rfl (by exact cell_one_new _ _ _) (by intro u hu; simp at hu; subst hu; rfl) (by unfold maxLen; omega) (by omega) (by exact Nat.le_trans HBB.out.size (by simp)) ?_; intro v' w4 hown hgrow hnil))
                obtain ⟨g4, cap4, rfl⟩ := own_form hown (by omega)
                have HW4 := Sd.mk hown
                have HB4 := Sd.mk (Below.grown (HBB.out.alloc HBB.out.size _) hgrow (Nat.le_trans HBB.out.size (by simp)) (own_base HO3.out))
                clear hown hgrow hnil
                go_wp2_with fail
                go_roundg (l0 - k)
                case measure => have h1 := HN1.out; omega
                case rel =>
                  refine ⟨k + 1, y2, g4, cap4, rfl, rfl, by omega, HY2, ⟨by omega⟩, ⟨?_⟩, HB4⟩
                  rw [rads_succ, ← HY2.out]
                  exact HW4.out
          · have hle : ¬ age + (k : Int) ≤ m := by have := HMM.out; have := HAG.out; omega
            have hK : k = l0 - c0 := by omega
            have HK2 := Sd.mk hK
            clear hK
            go_wp2_with fail
            go_ret2
            rw [flE_ok HE.out HS.out (by simpa using hn'), ← HC0.out, ← HL0.out, ← HK2.out]
            refine ⟨_, rfl, ?_, below_box HB2.out⟩
            have h9 := ownsRow_base0 HO2.out
            unfold Fls
            rw [show (List.range (k + 1)).map (rad Z n c0 x) = rads Z n c0 x (k + 1) from rfl, rads_length]
            exact h9
  · have HE := Sd.mk he
    have z1 : (agE f n L Z age != 0) = true := by simpa using he
    generalize hk : agE f n L Z age = k at *
    have HK := Sd.mk hk
    clear he hk
    go_wp2_with fail
    go_ret2
    rw [flE_e (by rw [HK.out]; exact HE.out), HK.out]
    exact ⟨_, rfl, Fls.nil _, below_box HB1.out⟩

end Go.Proofs.Ythihdjhnldkdhaa
