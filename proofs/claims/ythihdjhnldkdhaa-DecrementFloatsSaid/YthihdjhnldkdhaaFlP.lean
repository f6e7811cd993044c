/- DecrementFloats: for causes of any shape, any age and any float the program's and the document's floats are the same and so are their codes: the law returns true, and the arguments stay as they are. -/
import Derived.Test.YthihdjhnldkdhaaRows
import Derived.WalkKit
import Derived.ProofKit
import Derived.OpenShut
import Derived.ShutString
import Derived.ChangeOld
import Derived.Below
import Derived.Lib.SmallJoins
import Derived.Deep.Matrix
import Derived.Test.YthihdjhnldkdhaaChecked
import Derived.Test.YthihdjhnldkdhaaFlE
namespace Go.Proofs.Ythihdjhnldkdhaa
namespace DecrementFloatsDone
open Go.ChangeShapes Go.WideShapes Go.ChangeAt Go.RowKit Go.Joins Go.Deep
set_option linter.unusedVariables false

theorem own : ownKnob Try.prog.godebug = none := by kernel_rfl
theorem laidOut : laidOutB Try.prog = true := by kernel_rfl
theorem c24 : Try.prog.cellsOf 24 = 2 := by kernel_rfl

theorem wf64 {x : Int} (h : (Lit.int .i64 x).wf = true) : -9223372036854775808 ≤ x ∧ x ≤ 9223372036854775807 := by
  have h1 := bounds_i64 h
  omega

theorem add_none (b o i : Nat) : (⟨b, o, none⟩ : Addr).add i = ⟨b, o + i, none⟩ := by
  by_cases h : i = 0
  · subst h; simp [Addr.add]
  · simp [Addr.add, h]

set_option maxRecDepth 100000 in
theorem lifted (os : Os) (started : os.Started) (H : Type) (enc : TypeId × Value → H) :
    ReturnsInHanded {} Try.checked os 3 .any (Rows.decrementFloatsSpec.pre6 enc Try.prog Try.f3 Rows.decrementFloatsRow.domain false) (Rows.decrementFloatsSpec.post enc Try.prog Try.f3 false true false false) := by
  refine returnsInHanded_of_change (C := Try.checked) own started (by kernel_rfl) Try.func3
    (ChangeSpec.witness6 (enc := enc) (C := Try.checked) false ⟨#[], #[.agg #[.int .i64 0, .slice none 0 0], .int .i64 0, .float .f64 0], []⟩ 8 (by kernel_rfl) (by kernel_rfl) (by kernel_rfl) (by kernel_rfl)) ?_
  intro W base args ds gs before hval0 hW hcnd _
  have hval : ∀ (j : Nat) t v, Try.f3.params[j]? = some t → args[j]? = some v → Value.okWide Try.prog W .any base t v := hval0
  have hW' := hW
  obtain ⟨p, q, hA0, hV, rfl, hfz, hnd⟩ := hW
  have hA : DataW.TrodAll enc Try.prog W 0 (fun _ => true) true Try.f3.params.toList args.toList ds p := hA0
  rw [Try.params3] at hA hval
  obtain ⟨v0, vs0, d0, ds0, p0, q0, hargs, rfl, rfl, h0, r0⟩ := trodAll_cons hA
  obtain ⟨v1, vs1, d1, ds1, p1, q1, rfl, rfl, rfl, h1, r1⟩ := trodAll_cons r0
  obtain ⟨v2, vs2, d2, ds2, p2, q2, rfl, rfl, rfl, h2, r2⟩ := trodAll_cons r1
  obtain ⟨rfl, rfl, rfl⟩ := trodAll_nil r2
  obtain rfl : args = #[v0, v1, v2] := by cases args; simp_all
  obtain ⟨rfl, rfl⟩ := trodVars_none hV
  have k0 := h0
  have lt0 : ∀ x ∈ p0, x.block < W.heap.size := by obtain ⟨m, hm⟩ := k0; exact DataW.trod_lt m _ _ _ hm
  obtain ⟨e0, e1, y0, y1, m, rfl, hd0, hp0, hy0, hy1⟩ := open_agg2 Try.underlying24 (by kernel_rfl) c24 (hval 0 _ v0 rfl rfl) h0
  obtain ⟨f, ef, hyf, wf⟩ := DataW.trod_int Try.underlying3 hy0
  simp at ef
  subst ef
  obtain ⟨A, n, C, L, Z, ew, hc⟩ : ∃ (A : Option Addr) (n C : Nat) (L : Nat → Nat) (Z : Nat → Nat → Int), e1 = .slice A n C ∧ Cau W f A n C L Z := by
    rcases open_int_rows Try.underlying22 Try.underlying51 Try.underlying3 (by kernel_rfl) (by kernel_rfl) hy1 with ⟨hcs, _⟩ | ⟨a, len, cap, A, L, C, Z, hcs, _, hl, hm, _, hrow⟩
    · simp at hcs
      exact ⟨none, 0, 0, fun _ => 0, fun _ _ => 0, hcs, ⟨(wf64 wf).1, (wf64 wf).2, by omega, fun r hr => by omega⟩⟩
    · simp at hcs
      refine ⟨some a, len, cap, L, fun r c => (Z r).getD c 0, hcs, ⟨(wf64 wf).1, (wf64 wf).2, by unfold maxLen at hm; omega, fun r hr => ?_⟩⟩
      obtain ⟨t1, t2, t3, t4, t5, t6, t7⟩ := hrow r (by omega)
      obtain ⟨b, o, spot⟩ := a
      have hspot : spot = none := by simpa [Addr.add] using World.cell?_spot (hrow 0 (by omega)).1
      subst hspot
      rw [add_none] at t1
      refine ⟨b, o, A r, C r, rfl, t1, by unfold maxLen at t3; omega, fun c hcc => ?_⟩
      cases hA : A r with
      | none => have := t6 hA; omega
      | some a' =>
        have t8 := (t7 a' hA).2 c (by omega)
        obtain ⟨b', o', spot'⟩ := a'
        have hspot : spot' = none := by simpa [Addr.add] using World.cell?_spot ((t7 _ hA).2 0 (by omega))
        subst hspot
        rw [add_none] at t8
        refine ⟨b', o', rfl, t8, ?_⟩
        have hmem : (Z r).getD c 0 ∈ Z r := by
          rw [List.getD_eq_getElem?_getD, List.getElem?_eq_getElem (by omega)]
          exact List.getElem_mem _
        exact wf64 (t5 _ hmem)
  subst ew
  obtain ⟨a1, rfl, rfl, rfl, w1⟩ := open_int Try.underlying3 (hval 1 _ v1 rfl rfl) h1
  obtain ⟨a2, rfl, rfl, rfl, w2⟩ := open_float Try.underlying25 (hval 2 _ v2 rfl rfl) h2
  clear hA0 hval0
  refine (law_calls f A n C L Z a1 a2 W hc (wf64 w1).1 (wf64 w1).2 (by simpa [Lit.wf] using w2)).mono fun e W' ⟨he, bel⟩ => ?_
  subst he
  exact ⟨_, rfl, _, _, _, [], _, [], hW', trodAll_mk1 (shut_bool Try.underlying4 _), (trodAll_cons_mk (Below.trod laidOut (by kernel_rfl) (of_decide_eq_true (by kernel_rfl)) k0 bel lt0) (trodAll_cons_mk (shut_int Try.underlying3 w1) (trodAll_cons_mk (shut_float Try.underlying25 w2) trodAll_mk0))), rfl, bel.frame _, fun h => by cases h⟩

theorem over : Rows.decrementFloatsRow.holds Try.pinned (OpenSpec.ofChange Rows.decrementFloatsSpec) :=
  OpenClaim.holds_of_wide 3 Try.f3 rfl rfl rfl rfl rfl rfl rfl ⟨rfl, rfl, rfl, rfl, rfl⟩ rfl rfl rfl rfl rfl (by kernel_rfl) Try.func3 (by kernel_rfl)
    (of_decide_eq_true (by kernel_rfl)) (by unfold Func.isWrapper; first | (rw [if_pos (by decide +kernel)]; kernel_rfl) | (rw [if_neg (by decide +kernel)]; exact ⟨rfl, rfl⟩))
    (fun os started H enc _ => lifted os started H enc)

end DecrementFloatsDone

theorem decrementFloats_holds : Rows.DecrementFloatsSaid := DecrementFloatsDone.over

#print axioms decrementFloats_holds
end Go.Proofs.Ythihdjhnldkdhaa
