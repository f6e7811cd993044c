/- Two equal lists of floats are the same. -/
import Derived.Test.YthihdjhnldkdhaaFlC
set_option linter.unusedVariables false
set_option linter.unusedSimpArgs false
namespace Go.Proofs.Ythihdjhnldkdhaa
open Go.RowKit Dig Fl

theorem run_bits (x : Nat) (w : World) : (callFunc 44 #[.float .f64 x]).run Try.prog w = .ok (.value (.int .u64 (x : Int))) w := by
  rw [run_callFunc_extern (P := Try.prog) (fn := Try.f44) (by kernel_rfl) (by kernel_rfl) (by kernel_rfl) (by kernel_rfl) (e := Extern.MathFloatBits.float64bits) (by kernel_rfl)]
  rfl

set_option maxRecDepth 100000 in
set_option maxHeartbeats 1000000 in
theorem same_calls (x : Nat) (w : World) :
    Calls Try.prog 27 #[.float .f64 x, .float .f64 x] w fun e w' => e = .returned (.bool true) ∧ w' = w := by
  have hb := run_bits
  go_enter Try.func27, Try.ntmps27
  go_wp2
  go_ret
  exact ⟨rfl, rfl⟩

theorem Fls.cell {w : World} {v : Value} {l : List Nat} (h : Fls w v l) (hl : 0 < l.length) : ∃ g cap, v = .slice (some ⟨g, 0, none⟩) l.length cap ∧ ∀ i, i < l.length → w.cell? ⟨g, i, none⟩ = some (.float .f64 (l.getD i 0)) := by
  obtain ⟨g, cap, rfl⟩ := own_form h hl
  refine ⟨g, cap, rfl, fun i hi => ?_⟩
  rw [World.ownsRow.cellAt h i (by omega)]
  simp [fv, List.getD_eq_getElem?_getD, List.getElem?_eq_getElem hi]

set_option maxRecDepth 100000 in
set_option maxHeartbeats 2000000 in
theorem sames_calls (v u : Value) (l : List Nat) (w : World) (hv : Fls w v l) (hu : Fls w u l) (hl : l.length ≤ 1000) :
    Calls Try.prog 8 #[v, u] w fun e w' => e = .returned (.bool true) ∧ Drw w w' := by
  by_cases h0 : l.length = 0
  · have e1 : v = .slice none 0 0 ∨ ∃ g cap, v = .slice (some ⟨g, 0, none⟩) 0 cap := by
      rcases hv.2 with ⟨rfl, _⟩ | ⟨g, cap, cur, rfl, _⟩
      · exact .inl rfl
      · exact .inr ⟨g, cap, by rw [h0]⟩
    have e2 : u = .slice none 0 0 ∨ ∃ g cap, u = .slice (some ⟨g, 0, none⟩) 0 cap := by
      rcases hu.2 with ⟨rfl, _⟩ | ⟨g, cap, cur, rfl, _⟩
      · exact .inl rfl
      · exact .inr ⟨g, cap, by rw [h0]⟩
    clear hv hu h0 hl
    rcases e1 with rfl | ⟨g, cap, rfl⟩ <;> rcases e2 with rfl | ⟨g', cap', rfl⟩
    all_goals
      go_enter Try.func8, Try.ntmps8
      go_wp2_with fail
      go_loopw [5] (fun i wr => i = .int .i64 0 ∧ wr = w) (fun _ _ => 0)
      case atStart => exact ⟨rfl, rfl⟩
      case round =>
        obtain ⟨rfl, rfl⟩ := hrel
        go_wp2
        go_ret
        exact ⟨rfl, Drw.refl _⟩
  · obtain ⟨g, cap, rfl, c1⟩ := hv.cell (by omega)
    obtain ⟨g', cap', rfl, c2⟩ := hu.cell (by omega)
    have HC1 := Sd.mk c1
    have HC2 := Sd.mk c2
    have z1 : ((l.length : Int) != (l.length : Int)) = false := by simp
    clear hv hu c1 c2
    go_enter Try.func8, Try.ntmps8
    go_wp2_with fail
    go_loopw [5] (fun i wr => ∃ k : Nat, i = .int .i64 (k : Int) ∧ k ≤ l.length ∧ Drw w wr) (fun i _ => l.length - (intOf i).toNat)
    case atStart => exact ⟨0, rfl, Nat.zero_le _, Drw.refl _⟩
    case round =>
      obtain ⟨k, rfl, hk, HD⟩ := hrel
      obtain ⟨wo, rfl⟩ : ∃ wo : World, wo = wr := ⟨_, rfl⟩
      by_cases hkl : k < l.length
      · have d1 := cell_below HD.below (HC1.out k hkl)
        have d2 := cell_below HD.below (HC2.out k hkl)
        obtain ⟨y, hy⟩ : ∃ y, y = l.getD k 0 := ⟨_, rfl⟩
        rw [← hy] at d1 d2
        clear hy
        go_wp2_with fail
        go_region_held3 (fun w => w.cell? ⟨g, k, none⟩ = some (.float .f64 y) ∧ w.cell? ⟨g', k, none⟩ = some (.float .f64 y)) (exact ⟨d1, d2⟩)
          (first
            | (go_at_call_of 27 (Value.float .f64 y); refine (same_calls y _).mono ?_; rintro e w4 ⟨rfl, rfl⟩))
        go_wp2_with fail
        exact ⟨⟨k + 1, rfl, by omega, HD.step 1⟩, by simp [intOf]; omega⟩
      · go_wp2
        go_ret
        exact ⟨rfl, HD⟩

end Go.Proofs.Ythihdjhnldkdhaa
