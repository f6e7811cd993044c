/- Plain facts on whole numbers told by their digits in a base, the least digit first: the value of a list of digits, the digits of a number, lists without noughts at the high end. -/
set_option linter.unusedVariables false
set_option linter.unusedSimpArgs false
namespace Go.Proofs.Ythihdjhnldkdhaa.Dig

def val (b : Nat) : List Nat → Nat
  | [] => 0
  | d :: l => d + b * val b l

/-- every digit is below the base -/
def Wf (b : Nat) (l : List Nat) : Prop := ∀ d ∈ l, d < b

/-- the digits of n, with fuel -/
def digF (b : Nat) : Nat → Nat → List Nat
  | 0, _ => []
  | f + 1, n => if n = 0 then [] else n % b :: digF b f (n / b)

def dig (b n : Nat) : List Nat := digF b (n + 1) n

/-- without noughts at the high end -/
def Nz (l : List Nat) : Prop := l = [] ∨ l.getD (l.length - 1) 0 ≠ 0

theorem val_nil (b : Nat) : val b [] = 0 := rfl
theorem val_cons (b d : Nat) (l : List Nat) : val b (d :: l) = d + b * val b l := rfl

theorem val_append (b : Nat) (l m : List Nat) : val b (l ++ m) = val b l + b ^ l.length * val b m := by
  induction l with
  | nil => simp [val]
  | cons d l ih =>
    simp only [List.cons_append, val, ih, List.length_cons, Nat.pow_succ]
    rw [Nat.mul_add, Nat.mul_comm (b ^ l.length) b, Nat.mul_assoc, Nat.add_assoc]

theorem val_snoc (b : Nat) (l : List Nat) (d : Nat) : val b (l ++ [d]) = val b l + d * b ^ l.length := by
  rw [val_append]; simp [val, Nat.mul_comm]

theorem val_zeros (b n : Nat) : val b (List.replicate n 0) = 0 := by
  induction n with
  | zero => rfl
  | succ n ih => simp [List.replicate_succ, val, ih]

theorem val_lt {b : Nat} (hb : 0 < b) {l : List Nat} (h : Wf b l) : val b l < b ^ l.length := by
  induction l with
  | nil => simp [val]
  | cons d l ih =>
    have h1 : d < b := h d (by simp)
    have h2 := ih (fun x hx => h x (by simp [hx]))
    simp only [val, List.length_cons, Nat.pow_succ]
    have h3 : b * (val b l + 1) ≤ b * b ^ l.length := Nat.mul_le_mul_left b h2
    rw [Nat.mul_comm (b ^ l.length) b]
    rw [Nat.mul_add] at h3
    omega

theorem val_take_drop (b : Nat) (l : List Nat) (i : Nat) (h : i ≤ l.length) : val b l = val b (l.take i) + b ^ i * val b (l.drop i) := by
  have := val_append b (l.take i) (l.drop i)
  rw [List.take_append_drop] at this
  rw [this]
  simp [Nat.min_eq_left h]

theorem val_take_succ (b : Nat) (l : List Nat) (i : Nat) (h : i < l.length) : val b (l.take (i + 1)) = val b (l.take i) + l.getD i 0 * b ^ i := by
  rw [List.take_succ_eq_append_getElem h, val_snoc]
  simp [Nat.min_eq_left (Nat.le_of_lt h), List.getD_eq_getElem?_getD, List.getElem?_eq_getElem h]

theorem val_drop (b : Nat) (l : List Nat) (i : Nat) (h : i < l.length) : val b (l.drop i) = l.getD i 0 + b * val b (l.drop (i + 1)) := by
  rw [List.drop_eq_getElem_cons h, val]
  simp [List.getD_eq_getElem?_getD, List.getElem?_eq_getElem h]

theorem Wf.nil (b : Nat) : Wf b [] := fun _ h => by cases h
theorem Wf.take {b : Nat} {l : List Nat} (h : Wf b l) (i : Nat) : Wf b (l.take i) := fun d hd => h d (List.mem_of_mem_take hd)
theorem Wf.drop {b : Nat} {l : List Nat} (h : Wf b l) (i : Nat) : Wf b (l.drop i) := fun d hd => h d (List.mem_of_mem_drop hd)
theorem Wf.append {b : Nat} {l m : List Nat} (h : Wf b l) (k : Wf b m) : Wf b (l ++ m) := fun d hd => (List.mem_append.1 hd).elim (h d) (k d)
theorem Wf.cons {b d : Nat} {l : List Nat} (hd : d < b) (h : Wf b l) : Wf b (d :: l) := fun x hx => by
  cases hx with
  | head => exact hd
  | tail _ hx => exact h x hx
theorem Wf.snoc {b d : Nat} {l : List Nat} (h : Wf b l) (hd : d < b) : Wf b (l ++ [d]) := h.append (Wf.cons hd (Wf.nil b))
theorem Wf.zeros {b : Nat} (hb : 0 < b) (n : Nat) : Wf b (List.replicate n 0) := fun d hd => by rw [(List.mem_replicate.1 hd).2]; exact hb
theorem Wf.getD {b : Nat} (hb : 0 < b) {l : List Nat} (h : Wf b l) (i : Nat) : l.getD i 0 < b := by
  rw [List.getD_eq_getElem?_getD]
  cases hi : l[i]? with
  | none => simpa using hb
  | some x => exact h x (List.mem_of_getElem? hi)
theorem Wf.set {b d : Nat} {l : List Nat} (h : Wf b l) (hd : d < b) (i : Nat) : Wf b (l.set i d) := fun x hx => by
  rcases List.mem_or_eq_of_mem_set hx with h1 | h1
  · exact h x h1
  · exact h1 ▸ hd

theorem val_set (b : Nat) (l : List Nat) (i d : Nat) (h : i < l.length) : val b (l.set i d) + l.getD i 0 * b ^ i = val b l + d * b ^ i := by
  induction l generalizing i with
  | nil => simp at h
  | cons x l ih =>
    cases i with
    | zero => simp [val]; omega
    | succ i =>
      have := ih i (by simpa using h)
      simp only [List.set_cons_succ, val, List.getD_cons_succ, Nat.pow_succ]
      have e : ∀ t : Nat, t * (b ^ i * b) = b * (t * b ^ i) := fun t => by rw [← Nat.mul_assoc, Nat.mul_comm]
      rw [e, e]
      have h1 : b * (val b (l.set i d) + l.getD i 0 * b ^ i) = b * (val b l + d * b ^ i) := by rw [this]
      rw [Nat.mul_add, Nat.mul_add] at h1
      omega

theorem digF_zero (b f : Nat) : digF b f 0 = [] := by cases f <;> simp [digF]

theorem digF_fuel {b : Nat} (hb : 2 ≤ b) : ∀ (f g n : Nat), n < f → n < g → digF b f n = digF b g n := by
  intro f
  induction f with
  | zero => intro g n h; omega
  | succ f ih =>
    intro g n h1 h2
    cases g with
    | zero => omega
    | succ g =>
      simp only [digF]
      by_cases h0 : n = 0
      · simp [h0]
      · rw [if_neg h0, if_neg h0]
        have : n / b < n := Nat.div_lt_self (by omega) (by omega)
        rw [ih g (n / b) (by omega) (by omega)]

theorem dig_zero (b : Nat) : dig b 0 = [] := by simp [dig, digF]

theorem dig_pos {b n : Nat} (hb : 2 ≤ b) (hn : n ≠ 0) : dig b n = n % b :: dig b (n / b) := by
  unfold dig
  have : n / b < n := Nat.div_lt_self (by omega) (by omega)
  rw [show digF b (n + 1) n = if n = 0 then [] else n % b :: digF b n (n / b) from rfl, if_neg hn, digF_fuel hb n (n / b + 1) (n / b) this (by omega)]

theorem val_dig {b : Nat} (hb : 2 ≤ b) (n : Nat) : val b (dig b n) = n := by
  induction n using Nat.strongRecOn with
  | _ n ih =>
    by_cases h : n = 0
    · subst h; simp [dig_zero, val]
    · rw [dig_pos hb h, val, ih _ (Nat.div_lt_self (by omega) (by omega))]
      have := Nat.div_add_mod n b
      omega

theorem wf_dig {b : Nat} (hb : 2 ≤ b) (n : Nat) : Wf b (dig b n) := by
  induction n using Nat.strongRecOn with
  | _ n ih =>
    by_cases h : n = 0
    · subst h; rw [dig_zero]; exact Wf.nil b
    · rw [dig_pos hb h]
      exact Wf.cons (Nat.mod_lt _ (by omega)) (ih _ (Nat.div_lt_self (by omega) (by omega)))

theorem dig_cons {b d n : Nat} (hb : 2 ≤ b) (hd : d < b) (h : d + b * n ≠ 0) : dig b (d + b * n) = d :: dig b n := by
  rw [dig_pos hb h]
  have h1 : (d + b * n) % b = d := by rw [Nat.add_mul_mod_self_left, Nat.mod_eq_of_lt hd]
  have h2 : (d + b * n) / b = n := by rw [Nat.add_mul_div_left _ _ (by omega), Nat.div_eq_of_lt hd, Nat.zero_add]
  rw [h1, h2]

theorem val_eq_zero {b : Nat} (hb : 2 ≤ b) {l : List Nat} (hz : Nz l) (h : val b l = 0) : l = [] := by
  induction l with
  | nil => rfl
  | cons d l ih =>
    exfalso
    simp only [val] at h
    have h1 : d = 0 := by omega
    have h2 : b * val b l = 0 := by omega
    have h3 : val b l = 0 := by
      rcases Nat.mul_eq_zero.1 h2 with h | h
      · omega
      · exact h
    rcases hz with hz | hz
    · simp at hz
    · cases l with
      | nil => simp at hz; exact hz h1
      | cons e l =>
        have : Nz (e :: l) := .inr (by simpa using hz)
        have := ih this h3
        simp at this

/-- a list of digits without noughts at the high end is what its value says -/
theorem dig_val {b : Nat} (hb : 2 ≤ b) {l : List Nat} (hw : Wf b l) (hz : Nz l) : dig b (val b l) = l := by
  induction l with
  | nil => simp [val, dig_zero]
  | cons d l ih =>
    have hzl : Nz l := by
      cases l with
      | nil => exact .inl rfl
      | cons e l =>
        rcases hz with hz | hz
        · simp at hz
        · exact .inr (by simpa using hz)
    have hne : d + b * val b l ≠ 0 := fun h => by
      have := val_eq_zero hb hz h
      simp at this
    rw [val, dig_cons hb (hw d (by simp)) hne, ih (fun x hx => hw x (by simp [hx])) hzl]

theorem nz_dig {b : Nat} (hb : 2 ≤ b) (n : Nat) : Nz (dig b n) := by
  induction n using Nat.strongRecOn with
  | _ n ih =>
    by_cases h : n = 0
    · subst h; rw [dig_zero]; exact .inl rfl
    · rw [dig_pos hb h]
      have := ih (n / b) (Nat.div_lt_self (by omega) (by omega))
      refine .inr ?_
      cases hd : dig b (n / b) with
      | nil =>
        have h0 : n / b = 0 := by
          have := val_dig hb (n / b)
          rw [hd] at this
          simpa [val] using this.symm
        have := Nat.div_add_mod n b
        rw [h0] at this
        simp
        omega
      | cons e l =>
        rw [hd] at this
        rcases this with h | h
        · simp at h
        · simpa using h

theorem dig_nil {b n : Nat} (hb : 2 ≤ b) : dig b n = [] ↔ n = 0 := by
  constructor
  · intro h
    have := val_dig hb n
    rw [h] at this
    simpa [val] using this.symm
  · rintro rfl; exact dig_zero b

theorem length_dig_le {b : Nat} (hb : 2 ≤ b) {n k : Nat} (h : n < b ^ k) : (dig b n).length ≤ k := by
  induction k generalizing n with
  | zero => simp at h; subst h; simp [dig_zero]
  | succ k ih =>
    by_cases h0 : n = 0
    · subst h0; simp [dig_zero]
    · rw [dig_pos hb h0, List.length_cons]
      have : n / b < b ^ k := by
        rw [Nat.div_lt_iff_lt_mul (by omega), ← Nat.pow_succ]
        exact h
      have := ih this
      omega

theorem lt_pow_length {b : Nat} (hb : 2 ≤ b) (n : Nat) : n < b ^ (dig b n).length := by
  have := val_lt (by omega) (wf_dig hb n)
  rwa [val_dig hb] at this

/-- the highest digit of a number that is not 0 -/
theorem dig_top {b : Nat} (hb : 2 ≤ b) {n : Nat} (h : n ≠ 0) : b ^ ((dig b n).length - 1) ≤ n := by
  have hz := nz_dig hb n
  have hl : dig b n ≠ [] := fun e => h ((dig_nil hb).1 e)
  rcases hz with e | e
  · exact absurd e hl
  · have hp : 0 < (dig b n).length := List.length_pos_iff.2 hl
    have h1 := val_take_succ b (dig b n) ((dig b n).length - 1) (by omega)
    rw [show (dig b n).length - 1 + 1 = (dig b n).length by omega, List.take_length, val_dig hb] at h1
    have : 1 * b ^ ((dig b n).length - 1) ≤ (dig b n).getD ((dig b n).length - 1) 0 * b ^ ((dig b n).length - 1) := Nat.mul_le_mul_right _ (by omega)
    omega

theorem length_dig_mono {b : Nat} (hb : 2 ≤ b) {m n : Nat} (h : m ≤ n) : (dig b m).length ≤ (dig b n).length :=
  length_dig_le hb (Nat.lt_of_le_of_lt h (lt_pow_length hb n))

/-- comparing by length -/
theorem lt_of_length {b : Nat} (hb : 2 ≤ b) {m n : Nat} (h : (dig b m).length < (dig b n).length) : m < n := by
  rcases Nat.lt_or_ge m n with h1 | h1
  · exact h1
  · have := length_dig_mono hb h1; omega

/-- -1, 0 or 1 -/
def cmpN (a b : Nat) : Int := if a < b then -1 else if a = b then 0 else 1

theorem cmpN_lt {a b : Nat} (h : a < b) : cmpN a b = -1 := if_pos h
theorem cmpN_eq {a b : Nat} (h : a = b) : cmpN a b = 0 := by unfold cmpN; rw [if_neg (by omega), if_pos h]
theorem cmpN_gt {a b : Nat} (h : b < a) : cmpN a b = 1 := by unfold cmpN; rw [if_neg (by omega), if_neg (by omega)]

/-- two numbers of one length that are the same above a digit are as that digit says -/
theorem lt_at {b : Nat} (hb : 0 < b) {l m : List Nat} (hl : Wf b l) (hm : Wf b m) {i : Nat} (h1 : i < l.length) (h2 : i < m.length) (hs : val b (l.drop (i + 1)) = val b (m.drop (i + 1))) (h : l.getD i 0 < m.getD i 0) : val b l < val b m := by
  rw [val_take_drop b l i (by omega), val_take_drop b m i (by omega), val_drop b l i h1, val_drop b m i h2, hs]
  have a1 := val_lt hb (hl.take i)
  rw [List.length_take, Nat.min_eq_left (by omega)] at a1
  have a2 : b ^ i * (l.getD i 0 + b * val b (m.drop (i + 1)) + 1) ≤ b ^ i * (m.getD i 0 + b * val b (m.drop (i + 1))) := Nat.mul_le_mul_left _ (by omega)
  rw [Nat.mul_add, Nat.mul_one] at a2
  omega

end Go.Proofs.Ythihdjhnldkdhaa.Dig
