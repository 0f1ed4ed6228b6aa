/- Plain laws of sets: a set's goods in their order, the set of some goods, the next subset. -/
import Derived.Test.YtffpiaipdeebcaaDoorTz
namespace Go.Proofs.YtffpiaipdeebcaaDoor
open Go.RowKit Go.Maps

/-- A set's goods, rising. -/
def eachL (s : Nat) : List Nat := (List.range' 0 32).filter fun i => s.testBit i
theorem filter_skip {b : Nat → Bool} : ∀ (n p c : Nat), p ≤ c → c ≤ p + n → (∀ i, p ≤ i → i < c → b i = false) → (List.range' p n).filter b = (List.range' c (p + n - c)).filter b
  | 0, p, c, h1, h2, _ => by
    have : c = p := by omega
    subst this
    simp
  | n + 1, p, c, h1, h2, h3 => by
    rcases Nat.eq_or_lt_of_le h1 with h | h
    · subst h
      congr 2
      omega
    · rw [List.range'_succ, List.filter_cons, if_neg (by rw [h3 p (Nat.le_refl _) h]; simp), filter_skip n (p + 1) c h (by omega) (fun i h4 h5 => h3 i (by omega) h5)]
      congr 2
      omega
theorem filter_same {b b' : Nat → Bool} {p n : Nat} (h : ∀ i, p ≤ i → i < p + n → b i = b' i) : (List.range' p n).filter b = (List.range' p n).filter b' := by
  apply List.filter_congr
  intro i hi
  rw [List.mem_range'_1] at hi
  exact h i hi.1 hi.2
theorem div_bits {x p i : Nat} (hd : 2 ^ p ∣ x) (hi : i < p) : x.testBit i = false := by
  obtain ⟨m, rfl⟩ := hd
  have h := Nat.testBit_two_pow_mul_add m (show 0 < 2 ^ p from Nat.two_pow_pos p) i
  rw [Nat.add_zero] at h
  rw [h, if_pos hi, Nat.zero_testBit]
theorem each_order : ∀ (f p x : Nat), x < 4294967296 → 2 ^ p ∣ x → f + p = 33 → (eachF f x).map (·.val) = (List.range' p (32 - p)).filter fun i => x.testBit i
  | 0, p, x, hx, hd, hf => by
    have : p = 33 := by omega
    subst this
    rfl
  | f + 1, p, x, hx, hd, hf => by
    unfold eachF
    by_cases hx0 : x = 0
    · subst hx0
      simp
    rw [if_neg hx0]
    have hc := ctz_div hx0 hx hd
    obtain ⟨m, h1, h2, h32⟩ := ctz_form hx0 hx
    have hdm : 2 ^ (Lib.ctz 32 x) ∣ x := by
      clear hc h2 h32
      generalize Lib.ctz 32 x = k at *
      rw [h1]
      refine Nat.dvd_add ?_ (Nat.dvd_refl _)
      exact Nat.dvd_trans (Nat.pow_dvd_pow 2 (by omega)) (Nat.dvd_mul_right _ _)
    have hcl := fun i => (clear_bit hx0 hx i).1
    have hbit := (clear_bit hx0 hx 0).2
    have hdc : 2 ^ (Lib.ctz 32 x + 1) ∣ x &&& (x - 1) := by rw [h2]; exact Nat.dvd_mul_right _ _
    rw [List.map_cons, each_order f (p + 1) _ (by have := clear_lt hx0; omega) (clear_div hx0 hx hd) (by omega)]
    rw [filter_skip (32 - p) p (Lib.ctz 32 x) hc (by omega) (fun i _ h => div_bits hdm h)]
    rw [show p + (32 - p) - Lib.ctz 32 x = (31 - Lib.ctz 32 x) + 1 by omega, List.range'_succ, List.filter_cons, if_pos hbit]
    rw [filter_skip (32 - (p + 1)) (p + 1) (Lib.ctz 32 x + 1) (by omega) (by omega) (fun i _ h => div_bits hdc h)]
    rw [show p + 1 + (32 - (p + 1)) - (Lib.ctz 32 x + 1) = 31 - Lib.ctz 32 x by omega]
    congr 1
    · show (Lib.ctz 32 x) % 32 = _
      omega
    · refine filter_same (fun i h3 h4 => ?_)
      rw [hcl, decide_eq_true (by omega), Bool.and_true]
theorem each_eachL (x : Nat) (hx : x < 4294967296) : (eachF 33 x).map (·.val) = eachL x := each_order 33 0 x hx (Nat.one_dvd _) rfl

/-- One good more. -/
theorem or_pow (s g : Nat) : (if s.testBit g then s else s + 2 ^ g) = s ||| 2 ^ g := by
  split
  · next h =>
    apply Nat.eq_of_testBit_eq
    intro i
    rw [Nat.testBit_or, Nat.testBit_two_pow]
    by_cases hi : g = i
    · subst hi
      simp [h]
    · simp [hi]
  · next h =>
    simp only [Bool.not_eq_true] at h
    apply Nat.eq_of_testBit_eq
    intro i
    rw [Nat.testBit_or, Nat.testBit_two_pow]
    have hs : s = 2 ^ (g + 1) * (s / 2 ^ (g + 1)) + s % 2 ^ (g + 1) := (Nat.div_add_mod s (2 ^ (g + 1))).symm
    have hlt : s % 2 ^ (g + 1) < 2 ^ g := by
      have hb : (s % 2 ^ (g + 1)).testBit g = false := by rw [Nat.testBit_mod_two_pow]; simp [h]
      apply Nat.lt_of_not_le
      intro hle
      have h5 := Nat.mod_lt s (Nat.two_pow_pos (g + 1))
      have : (s % 2 ^ (g + 1)).testBit g = true := by
        rw [Nat.testBit_eq_decide_div_mod_eq]
        have e1 : s % 2 ^ (g + 1) / 2 ^ g = 1 := by
          rw [Nat.div_eq_of_lt_le] <;> rw [Nat.pow_succ] at h5 <;> omega
        rw [e1]
        rfl
      rw [hb] at this
      cases this
    have hpow : 2 ^ (g + 1) = 2 ^ g + 2 ^ g := by rw [Nat.pow_succ]; omega
    conv => lhs; arg 1; rw [hs]
    conv => rhs; arg 1; arg 1; rw [hs]
    generalize hq : s / 2 ^ (g + 1) = q
    generalize hr : s % 2 ^ (g + 1) = r at *
    rw [show 2 ^ (g + 1) * q + r + 2 ^ g = 2 ^ (g + 1) * q + (2 ^ g + r) by omega]
    rw [Nat.testBit_two_pow_mul_add q (show 2 ^ g + r < 2 ^ (g + 1) by omega), Nat.testBit_two_pow_mul_add q (show r < 2 ^ (g + 1) by omega)]
    split
    · by_cases hi : g = i
      · subst hi
        rw [Nat.testBit_two_pow_add_eq, Nat.testBit_lt_two_pow hlt]
        simp
      · rw [Nat.testBit_two_pow_add_gt (by omega) r]
        simp [hi]
    · have hi : ¬ g = i := by omega
      simp [hi]
/-- The set of some goods, or the refusal. -/
def ofS (l : List Int) : Nat := l.foldl (fun s g => s ||| 2 ^ g.toNat) 0
def badG (g : Int) : Bool := decide (g < 0) || decide (31 < g)
def ofG (l : List Int) : Nat × Int := if l.any badG then (0, 2) else (ofS l, 0)
theorem or_lt {s g : Nat} (hs : s < 4294967296) (hg : g < 32) : s ||| 2 ^ g < 4294967296 := by
  have h : 2 ^ g < 2 ^ 32 := Nat.pow_lt_pow_right (by omega) hg
  exact Nat.or_lt_two_pow (n := 32) hs h
/-- Is a good in a set? -/
def hasB (s : Nat) (g : Int) : Bool := decide (0 ≤ g) && decide (g < 32) && s.testBit g.toNat

/-- A set and some goods. -/
def setL (s : Nat) (l : List Nat) : Nat := l.foldl (fun s i => s ||| 2 ^ i) s
theorem setL_bit : ∀ (l : List Nat) (s i : Nat), (setL s l).testBit i = (s.testBit i || decide (i ∈ l))
  | [], s, i => by simp [setL]
  | g :: l, s, i => by
    show (setL (s ||| 2 ^ g) l).testBit i = _
    rw [setL_bit l, Nat.testBit_or, Nat.testBit_two_pow]
    by_cases h : i = g
    · subst h
      simp
    · have h' : ¬ g = i := fun e => h e.symm
      simp [h, h', List.mem_cons]
/-- The goods of which there is one at least. -/
def setC (cnt : Nat → Int) : Nat := setL 0 ((List.range 32).filter fun i => decide (0 < cnt i))
theorem setC_bit (cnt : Nat → Int) (i : Nat) : (setC cnt).testBit i = (decide (i < 32) && decide (0 < cnt i)) := by
  unfold setC
  rw [setL_bit, Nat.zero_testBit, Bool.false_or, Bool.eq_iff_iff, decide_eq_true_iff, List.mem_filter, List.mem_range]
  simp
theorem setC_lt (cnt : Nat → Int) : setC cnt < 4294967296 := by
  apply Nat.lt_of_not_le
  intro hle
  obtain ⟨i, hi, hb⟩ := Nat.exists_ge_and_testBit_of_ge_two_pow (n := 32) hle
  rw [setC_bit] at hb
  simp at hb
  omega
theorem setC_same {cnt cnt' : Nat → Int} (h : ∀ j, j < 32 → cnt' j = cnt j) : setC cnt' = setC cnt := by
  apply Nat.eq_of_testBit_eq
  intro i
  rw [setC_bit, setC_bit]
  by_cases hi : i < 32
  · rw [h i hi]
  · simp [hi]
theorem setC_bump (cnt : Nat → Int) {x : Nat} (hx : x < 32) {v : Int} (hv : 0 < v) : setC (fun j => if j = x then v else cnt j) = setC cnt ||| 2 ^ x := by
  apply Nat.eq_of_testBit_eq
  intro i
  rw [Nat.testBit_or, Nat.testBit_two_pow, setC_bit, setC_bit]
  by_cases hi : i = x
  · subst hi
    simp [hx, hv]
  · have hi' : ¬ x = i := fun e => hi e.symm
    simp [hi, hi']
theorem setC_zero : setC (fun _ => 0) = 0 := by decide +kernel

/-- The document's next subset: the goods of the set are the digits of a number. -/
def nextR (s : Nat) : List Nat → Nat × Bool
  | [] => (0, false)
  | i :: is => if s.testBit i then nextR (s - 2 ^ i) is else (s + 2 ^ i, true)
def nextG (s o : Nat) : Nat × Bool := if !withinB s o || s == o then (0, false) else ((s + 4294967296 - o) % 4294967296 &&& o, true)
def nextD (s o : Nat) : Nat × Bool := if !withinB s o || s == o then (0, false) else nextR s (eachL o)
theorem sub_bits {t p : Nat} (h : t.testBit p = true) (i : Nat) : (t - 2 ^ p).testBit i = (t.testBit i && decide (i ≠ p)) := by
  have hle := Nat.ge_two_pow_of_testBit h
  obtain ⟨x, rfl⟩ : ∃ x, t = 2 ^ p + x := ⟨t - 2 ^ p, by omega⟩
  have h1 : x.testBit p = false := by
    rw [Nat.testBit_two_pow_add_eq] at h
    simpa using h
  have h2 := or_pow x p
  rw [if_neg (by rw [h1]; simp)] at h2
  rw [show 2 ^ p + x - 2 ^ p = x by omega, Nat.add_comm, h2, Nat.testBit_or, Nat.testBit_two_pow]
  by_cases hi : i = p
  · subst hi
    simp [h1]
  · have : ¬ p = i := fun e => hi e.symm
    simp [hi, this]
theorem nextR_bits {s o : Nat} (hw : ∀ i, s.testBit i = true → o.testBit i = true) {m : Nat} (hm : o.testBit m = true) (hms : s.testBit m = false) (hmin : ∀ i, i < m → o.testBit i = true → s.testBit i = true) :
    ∀ (n p t : Nat), p ≤ m → m < p + n → (∀ i, t.testBit i = (decide (p ≤ i) && s.testBit i)) →
      (nextR t ((List.range' p n).filter fun i => o.testBit i)).2 = true ∧ ∀ i, (nextR t ((List.range' p n).filter fun i => o.testBit i)).1.testBit i = (decide (i = m) || (decide (m < i) && s.testBit i))
  | 0, p, t, h1, h2, _ => by omega
  | n + 1, p, t, h1, h2, h3 => by
    rw [List.range'_succ, List.filter_cons]
    by_cases ho : o.testBit p = true
    · rw [if_pos ho]
      unfold nextR
      by_cases hs : s.testBit p = true
      · have ht : t.testBit p = true := by rw [h3, hs]; simp
        rw [if_pos ht]
        have hne : p ≠ m := fun e => by rw [e, hms] at hs; cases hs
        refine nextR_bits hw hm hms hmin n (p + 1) _ (by omega) (by omega) (fun i => ?_)
        rw [sub_bits ht, h3]
        by_cases hi : i = p
        · subst hi
          simp [show ¬ i + 1 ≤ i by omega]
        · by_cases hl : p ≤ i
          · simp [hi, hl, show p + 1 ≤ i by omega]
          · simp [hl, show ¬ p + 1 ≤ i by omega]
      · have hpm : p = m := by
          rcases Nat.lt_or_ge p m with h | h
          · exact absurd (hmin p h ho) hs
          · omega
        subst hpm
        have ht : t.testBit p = false := by rw [h3, hms]; simp
        rw [if_neg (by rw [ht]; simp)]
        refine ⟨rfl, fun i => ?_⟩
        have h4 := or_pow t p
        rw [if_neg (by rw [ht]; simp)] at h4
        show (t + 2 ^ p).testBit i = _
        rw [h4, Nat.testBit_or, Nat.testBit_two_pow, h3]
        by_cases hi : i = p
        · subst hi
          simp
        · have hi' : ¬ p = i := fun e => hi e.symm
          by_cases hl : p ≤ i
          · simp [hi, hi', hl, show p < i by omega]
          · simp [hi, hi', hl, show ¬ p < i by omega]
    · rw [if_neg ho]
      have hne : p ≠ m := fun e => ho (by rw [e]; exact hm)
      refine nextR_bits hw hm hms hmin n (p + 1) t (by omega) (by omega) (fun i => ?_)
      rw [h3]
      by_cases hi : i = p
      · subst hi
        have : s.testBit i = false := by
          rw [← Bool.not_eq_true]
          exact fun e => ho (hw i e)
        simp [this]
      · by_cases hl : p ≤ i
        · simp [hl, show p + 1 ≤ i by omega]
        · simp [hl, show ¬ p + 1 ≤ i by omega]
theorem next_same {s o : Nat} (hs : s < 4294967296) (ho : o < 4294967296) : nextG s o = nextD s o := by
  unfold nextG nextD
  by_cases hc : (!withinB s o || s == o) = true
  · rw [if_pos hc, if_pos hc]
  rw [if_neg hc, if_neg hc]
  simp only [Bool.or_eq_true, Bool.not_eq_true', beq_iff_eq, not_or, Bool.not_eq_false] at hc
  obtain ⟨hwi, hne⟩ := hc
  have hw := (withinB_iff s o hs ho).1 hwi
  have hand : s &&& o = s := by rw [and_eq_iff]; exact hw
  have hle := within_le s o hand
  have hd := lessG_sub s o hs ho hand
  have hdb := fun i => lessG_bit o s i ho hs
  rw [hd] at hdb
  have hd0 : o - s ≠ 0 := by omega
  obtain ⟨k, h1, _, h32⟩ := ctz_form hd0 (by omega)
  have hbit := (clear_bit hd0 (by omega) 0).2
  obtain ⟨m, hm⟩ : ∃ m, Lib.ctz 32 (o - s) = m := ⟨_, rfl⟩
  rw [hm] at h1 h32 hbit
  have hlt : 2 ^ m < 2 ^ (m + 1) := by rw [Nat.pow_succ]; have := Nat.two_pow_pos m; omega
  have hpos := Nat.two_pow_pos m
  have hdi : ∀ i, i < m → (o - s).testBit i = false := fun i hi => by
    rw [h1, Nat.testBit_two_pow_mul_add k hlt, if_pos (by omega), Nat.testBit_two_pow]
    simp
    omega
  have hmo : o.testBit m = true ∧ s.testBit m = false := by
    rw [hdb m] at hbit
    simpa using hbit
  have hmin : ∀ i, i < m → o.testBit i = true → s.testBit i = true := fun i hi h => by
    have := hdi i hi
    rw [hdb i, h] at this
    simpa using this
  have hr := nextR_bits hw hmo.1 hmo.2 hmin 32 0 s (by omega) (by omega) (fun i => by simp)
  have e1 : (s + 4294967296 - o) % 4294967296 = 4294967295 - ((o - s) - 1) := by
    rw [Nat.mod_eq_of_lt (by omega)]
    omega
  refine Prod.ext ?_ hr.1.symm
  apply Nat.eq_of_testBit_eq
  intro i
  show ((s + 4294967296 - o) % 4294967296 &&& o).testBit i = (nextR s (eachL o)).1.testBit i
  unfold eachL
  rw [hr.2 i, e1, Nat.testBit_and, compl_bit _ i (by omega)]
  have e2 : ((o - s) - 1).testBit i = if i < m + 1 then decide (i < m) else (o - s).testBit i := by
    have h2 : (o - s) - 1 = 2 ^ (m + 1) * k + (2 ^ m - 1) := by omega
    rw [h2, Nat.testBit_two_pow_mul_add k (by omega), Nat.testBit_two_pow_sub_one]
    split
    · rfl
    · next h => rw [h1, Nat.testBit_two_pow_mul_add k hlt, if_neg h]
  rw [e2]
  rcases Nat.lt_trichotomy i m with h | h | h
  · rw [if_pos (by omega), decide_eq_true h]
    simp [show ¬ i = m by omega, show ¬ m < i by omega]
  · subst h
    rw [if_pos (by omega)]
    simp [hmo.1, h32]
  · rw [if_neg (by omega), hdb i]
    by_cases hi : i < 32
    · have h5 := hw i
      cases ho' : o.testBit i <;> cases hs' : s.testBit i <;> simp_all <;> omega
    · have hol : o.testBit i = false := Nat.testBit_lt_two_pow (by
        have := Nat.pow_le_pow_right (n := 2) (by omega) (show 32 ≤ i by omega)
        omega)
      have hsl : s.testBit i = false := by rw [← Bool.not_eq_true]; exact fun e => by rw [hw i e] at hol; cases hol
      rw [hol, hsl]
      simp [show ¬ i = m by omega]
end Go.Proofs.YtffpiaipdeebcaaDoor
