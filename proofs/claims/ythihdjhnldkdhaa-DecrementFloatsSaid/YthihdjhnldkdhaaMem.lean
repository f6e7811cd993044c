/- Memory: what slices of words and of ints hold; what stays when new memory is made. -/
import Derived.Test.YthihdjhnldkdhaaProg
import Derived.WalkKit
import Derived.KernelRfl
import Derived.Deep.LoopGhost
import Derived.Deep.QuietTactic
import Derived.BigQuiet
import Derived.Deep.Draws
import Derived.Deep.RegionHeld3
import Derived.Deep.RegionWith
import Derived.Test.YthihdjhnldkdhaaDig
set_option linter.unusedVariables false
set_option linter.unusedSimpArgs false
namespace Go.Proofs.Ythihdjhnldkdhaa
open Go.RowKit Dig

/-- the base of the program's words -/
abbrev BW : Nat := 4294967296

theorem bw2 : 2 ≤ BW := by decide

/-- a fact that the walk does not look into -/
structure Sd (p : Prop) : Prop where mk :: (out : p)

/-- words as values -/
def wv (l : List Nat) : List Value := l.map fun (d : Nat) => Value.int .u32 (d : Int)

theorem wv_length (l : List Nat) : (wv l).length = l.length := by simp [wv]
theorem wv_get (l : List Nat) (j : Nat) (h : j < l.length) : (wv l)[j]? = some (.int .u32 ((l.getD j 0 : Nat) : Int)) := by
  simp [wv, List.getD_eq_getElem?_getD, List.getElem?_eq_getElem h]
theorem wv_take (l : List Nat) (n : Nat) : (wv l).take n = wv (l.take n) := by simp [wv, List.map_take]
theorem wv_set (l : List Nat) (i d : Nat) : (wv l).set i (.int .u32 (d : Int)) = wv (l.set i d) := by simp [wv, List.map_set]
theorem wv_append (l m : List Nat) : wv (l ++ m) = wv l ++ wv m := by simp [wv]
theorem wv_zeros (n : Nat) : wv (List.replicate n 0) = List.replicate n (.int .u32 0) := by simp [wv]

/-- the slice v holds the words l -/
def Wds (w : World) (v : Value) (l : List Nat) : Prop := w.ownsRow 0 114 1 v l.length (wv l)

theorem grownBy_of_below {w w1 : World} (h : Below w.heap.size w w1) (row : Option Nat) : w.grownBy w1 row := ⟨h.os, h.tape, h.output, h.size, fun i hi _ => h.block i hi⟩
theorem below_of_grownBy {w w1 : World} (h : w.grownBy w1 none) : Below w.heap.size w w1 := ⟨h.os, h.tape, h.output, h.size, fun i hi => h.block i hi (by simp)⟩

theorem ownsRow_below {w w1 : World} {base : Nat} {e : TypeId} {size n : Nat} {v : Value} {xs : List Value} (h : w.ownsRow base e size v n xs) (hb : Below w.heap.size w w1) : w1.ownsRow base e size v n xs :=
  h.kept (grownBy_of_below hb none) (by cases v.ownBlock <;> simp)
theorem Wds.below {w w1 : World} {v : Value} {l : List Nat} (h : Wds w v l) (hb : Below w.heap.size w w1) : Wds w1 v l := ownsRow_below h hb

theorem ownsRow_base0 {w : World} {base : Nat} {e : TypeId} {size n : Nat} {v : Value} {xs : List Value} (h : w.ownsRow base e size v n xs) : w.ownsRow 0 e size v n xs :=
  ⟨h.1, h.2.imp id fun ⟨g, cap, cur, h1, h2, h3⟩ => ⟨g, cap, cur, h1, Nat.zero_le _, h3⟩⟩

theorem Wds.form {w : World} {v : Value} {l : List Nat} (h : Wds w v l) :
    ∃ A c, v = .slice A l.length c ∧ l.length ≤ c ∧ c ≤ 9223372036854775807 ∧ (∀ j, j < l.length → ∃ g, A = some ⟨g, 0, none⟩ ∧ w.cell? ⟨g, j, none⟩ = some (.int .u32 ((l.getD j 0 : Nat) : Int))) := by
  have h' := h
  rcases h.2 with ⟨rfl, h0⟩ | ⟨g, cap, cur, rfl, hb, hh, hn, hm, hs, ht⟩
  · exact ⟨none, 0, by rw [h0], by omega, by omega, fun j hj => by omega⟩
  · refine ⟨_, cap, rfl, hn, by unfold maxLen at hm; omega, fun j hj => ⟨g, rfl, ?_⟩⟩
    rw [World.ownsRow.cellAt h' j (by omega), wv_get l j hj]

/-- some orders have been drawn, nothing else -/
structure Drw (w w' : World) : Prop where mk :: (out : ∃ n, w' = w.drewN n)
theorem Drw.refl (w : World) : Drw w w := ⟨⟨0, rfl⟩⟩
theorem Drw.step {w w' : World} (h : Drw w w') (n : Nat) : Drw w (w'.drewN n) := by
  obtain ⟨m, rfl⟩ := h
  exact ⟨⟨m + n, World.drewN_drewN ..⟩⟩
theorem Drw.below {w w' : World} (h : Drw w w') : Below w.heap.size w w' := by
  obtain ⟨n, rfl⟩ := h
  induction n with
  | zero => exact Below.refl _ _
  | succ n ih => rw [← World.drew_drewN]; exact ih.drew
theorem Wds.at_ {w : World} {A : Option Addr} {n c : Nat} {l : List Nat} (h : Wds w (.slice A n c) l) (j : Nat) (hj : j < l.length) :
    ∃ g, A = some ⟨g, 0, none⟩ ∧ w.cell? ⟨g, j, none⟩ = some (.int .u32 ((l.getD j 0 : Nat) : Int)) := by
  obtain ⟨A', c', e, _, _, hc⟩ := h.form
  injection e with e1 e2 e3
  subst e1
  exact hc j hj

/-- a block of words that was just made, word by word -/
structure Ar (w : World) (g n : Nat) (l : List Nat) : Prop where
  len : l.length = n
  own : w.ownsRow g 114 1 (.slice (some ⟨g, 0, none⟩) n n) n (wv l)
theorem Ar.cell {w : World} {g n : Nat} {l : List Nat} (h : Ar w g n l) (i : Nat) (hi : i < n) : w.cell? ⟨g, i, none⟩ = some (.int .u32 ((l.getD i 0 : Nat) : Int)) := by
  rw [h.own.cellAt i (by omega), wv_get l i (by rw [h.len]; exact hi)]
theorem Ar.free {w : World} {g n : Nat} {l : List Nat} (h : Ar w g n l) (i : Nat) : w.frozen? ⟨g, i, none⟩ = false := h.own.frozenAt i
theorem Ar.set {w : World} {g n : Nat} {l : List Nat} (h : Ar w g n l) (i d : Nat) : Ar (w.setCell ⟨g, i, none⟩ (.int .u32 (d : Int))) g n (l.set i d) :=
  ⟨by simp [h.len], by have := (h.own.stored i (.int .u32 (d : Int))).1; rw [wv_set] at this; exact this⟩
theorem Ar.wds {w : World} {g n : Nat} {l : List Nat} (h : Ar w g n l) : Wds w (.slice (some ⟨g, 0, none⟩) n n) l := by
  have := ownsRow_base0 h.own
  unfold Wds
  rw [h.len]
  exact this
theorem Ar.block {w : World} {g n : Nat} {l : List Nat} (h : Ar w g n l) : w.heap[g]? = some (.cells (wv l).toArray 114 (0, 0)) := by
  rcases h.own.2 with ⟨h1, _⟩ | ⟨g', cap, cur, h1, hb, hh, hn, hm, hs, ht⟩
  · simp at h1
  · simp at h1
    obtain ⟨rfl, rfl⟩ := h1
    rw [hh]
    have : cur.toList = wv l := by
      rw [← ht, List.take_of_length_le (by rw [Array.length_toList, hs]; exact Nat.le_refl _)]
    rw [← this]
theorem Ar.of_block {w : World} {g n : Nat} {l : List Nat} (h : w.heap[g]? = some (.cells (wv l).toArray 114 (0, 0))) (hl : l.length = n) (hn : n ≤ maxLen) : Ar w g n l :=
  ⟨hl, by rw [wv_length]; omega, .inr ⟨g, n, (wv l).toArray, rfl, Nat.le_refl _, h, Nat.le_refl _, hn, by simp [wv_length, hl], by
    rw [List.take_of_length_le (by simp [wv_length, hl])]⟩⟩
theorem Wds.cellsAt {w : World} {A : Option Addr} {n c : Nat} {l : List Nat} (h : Wds w (.slice A n c) l) (hl : 0 < l.length) : ∃ ad, A = some ad ∧ ∀ j u, (wv l)[j]? = some u → w.cell? (ad.add j) = some u := by
  obtain ⟨g, rfl, _⟩ := h.at_ 0 hl
  exact ⟨_, rfl, World.ownsRow.cells h rfl⟩
theorem Ar.below {w w1 : World} {g n : Nat} {l : List Nat} (h : Ar w g n l) (hb : Below w.heap.size w w1) : Ar w1 g n l := ⟨h.len, ownsRow_below h.own hb⟩
theorem Ar.drewN {w : World} {g n : Nat} {l : List Nat} (h : Ar w g n l) (k : Nat) : Ar (w.drewN k) g n l := h.below (Drw.below ⟨⟨k, rfl⟩⟩)

/-- a slice that is cut at its end -/
theorem Wds.cut {w : World} {A : Option Addr} {n c : Nat} {l : List Nat} (h : Wds w (.slice A n c) l) (m : Nat) (hm : m ≤ l.length) : Wds w (.slice A m c) (l.take m) := by
  have hl : (l.take m).length = m := by simp [Nat.min_eq_left hm]
  rcases h.2 with ⟨h1, h0⟩ | ⟨g, cap, cur, h1, hb, hh, hn, hmx, hs, ht⟩
  · simp at h1
    obtain ⟨rfl, rfl, rfl⟩ := h1
    have : m = 0 := by omega
    subst this
    exact ⟨by simp [wv], .inl ⟨rfl, by simp⟩⟩
  · simp at h1
    obtain ⟨rfl, h2, rfl⟩ := h1
    refine ⟨by rw [wv_length]; omega, .inr ⟨g, c, cur, by rw [hl], hb, hh, by omega, hmx, hs, ?_⟩⟩
    rw [← wv_take, ← ht, List.take_take]
    congr 1
    omega

theorem Wds.nil (w : World) : Wds w (.slice none 0 0) [] := World.ownsRow_nil w 0 _ 1

theorem ret_int {k : IntKind} {a b : Int} (h : b = a) : Ending.returned (.int k a) = .returned (.int k b) := by rw [h]
theorem ret_bool {a b : Bool} (h : b = a) : Ending.returned (.bool a) = .returned (.bool b) := by rw [h]

theorem Below.tr {w w1 w2 : World} (h : Below w.heap.size w w1) (k : Below w1.heap.size w1 w2) : Below w.heap.size w w2 :=
  h.trans ⟨k.os, k.tape, k.output, k.size, fun i hi => k.block i (Nat.lt_of_lt_of_le hi h.size)⟩
theorem Below.al {w w1 : World} (h : Below w.heap.size w w1) (o : Obj) : Below w.heap.size w (w1.alloc o) := h.alloc h.size o

/-- the slice v holds the words of the number n -/
def Wn (w : World) (v : Value) (n : Nat) : Prop := Wds w v (dig BW n)
theorem Wn.below {w w1 : World} {v : Value} {n : Nat} (h : Wn w v n) (hb : Below w.heap.size w w1) : Wn w1 v n := Wds.below h hb

end Go.Proofs.Ythihdjhnldkdhaa
