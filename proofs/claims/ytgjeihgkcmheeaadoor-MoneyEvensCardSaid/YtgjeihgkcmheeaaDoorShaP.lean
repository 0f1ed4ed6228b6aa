/- Shares, plainly: the whole parts, the rests, whose rest is greatest. No program. -/
import Derived.Test.YtgjeihgkcmheeaaDoorMn2
import Derived.Test.YtgjeihgkcmheeaaDoorStabU
namespace Go.Proofs.YtgjeihgkcmheeaaDoor
open Go.RowKit Go.Shelf Go.Sort

def qF (c s : Int) (ws : List Int) (i : Nat) : Int := c * ws.getD i 0 / s
def rF (c s : Int) (ws : List Int) (i : Nat) : Int := c * ws.getD i 0 % s
/-- Which of two rests comes first: the greater. -/
def cmpF (r : Nat → Int) (x y : Int) : Int := if r y.toNat < r x.toNat then -1 else if r x.toNat < r y.toNat then 1 else 0
theorem lt_cmpF (r : Nat → Int) (x y : Int) : ltOf (cmpF r) x y = decide (r y.toNat < r x.toNat) := by
  unfold ltOf cmpF
  by_cases h : r y.toNat < r x.toNat
  · rw [if_pos h, decide_eq_true h]; rfl
  · rw [if_neg h, decide_eq_false h]
    split <;> rfl
theorem swoF (r : Nat → Int) : SWO (ltOf (cmpF r)) := by
  refine ⟨fun x => ?_, fun x y z h1 h2 => ?_, fun x y z h1 h2 => ?_⟩
  · rw [lt_cmpF]; simp
  · rw [lt_cmpF, decide_eq_true_eq] at *; omega
  · rw [lt_cmpF, decide_eq_false_iff_not] at *; omega
/-- The places in the order in which they are served. -/
def ordF (r : Nat → Int) (n : Nat) : List Int := sortedI (cmpF r) n
/-- i is served ahead of j. -/
def Ahead (r : Nat → Int) (i j : Int) : Prop := r j.toNat < r i.toNat ∨ (r i.toNat = r j.toNat ∧ i < j)
theorem stb_ahead {r : Nat → Int} {x y : Int} : stb (ltOf (cmpF r)) x y = true ↔ Ahead r x y := by
  rw [stb_true, lt_cmpF, lt_cmpF, decide_eq_true_eq, decide_eq_false_iff_not]
  unfold Ahead
  omega
theorem ordF_perm (r : Nat → Int) (n : Nat) : (ordF r n).Perm (rangeI n) := List.mergeSort_perm _ _
theorem ordF_len (r : Nat → Int) (n : Nat) : (ordF r n).length = n := by rw [(ordF_perm r n).length_eq]; exact rangeI_len n
theorem rangeI_mem {n : Nat} {x : Int} : x ∈ rangeI n ↔ 0 ≤ x ∧ x < n := by
  unfold rangeI
  rw [List.mem_map]
  constructor
  · rintro ⟨i, hi, rfl⟩
    rw [List.mem_range] at hi
    omega
  · intro h
    exact ⟨x.toNat, List.mem_range.2 (by omega), by omega⟩
theorem rangeI_nodup (n : Nat) : (rangeI n).Nodup := by
  unfold rangeI
  refine List.Pairwise.map _ (fun a b h e => h ?_) List.nodup_range
  omega
theorem ordF_nodup (r : Nat → Int) (n : Nat) : (ordF r n).Nodup := (ordF_perm r n).nodup_iff.2 (rangeI_nodup n)
theorem ordF_mem {r : Nat → Int} {n : Nat} {x : Int} : x ∈ ordF r n ↔ 0 ≤ x ∧ x < n := by rw [(ordF_perm r n).mem_iff]; exact rangeI_mem
theorem ordF_sorted (r : Nat → Int) (n : Nat) : (ordF r n).Pairwise (Ahead r) := by
  have hS := stb_swo (swoF r)
  have h1 : (ordF r n).Pairwise fun x y => (!stb (ltOf (cmpF r)) y x) = true := by
    unfold ordF sortedI
    refine List.pairwise_mergeSort (fun x y z h1 h2 => ?_) (fun x y => ?_) _
    · simp only [Bool.not_eq_true'] at *
      exact hS.ntrans z y x h2 h1
    · simp only [Bool.or_eq_true, Bool.not_eq_true']
      by_cases h : stb (ltOf (cmpF r)) y x = true
      · right
        rw [← Bool.not_eq_true]
        intro h2
        rw [stb_ahead] at h h2
        unfold Ahead at h h2
        omega
      · left; simpa using h
  have h2 := (ordF_nodup r n)
  unfold List.Nodup at h2
  refine (h1.and h2).imp_of_mem (fun {x y} hx hy h => ?_)
  obtain ⟨h1, h2⟩ := h
  rw [Bool.not_eq_true'] at h1
  rw [ordF_mem] at hx hy
  have h3 : ¬ Ahead r y x := fun h => by rw [stb_ahead.2 h] at h1; cases h1
  unfold Ahead at *
  omega
/-- Served among the first. -/
def served (r : Nat → Int) (n left : Nat) (i : Nat) : Bool := decide ((i : Int) ∈ (ordF r n).take left)
/-- The shares. -/
def shF (c s : Int) (ws : List Int) (left : Nat) (i : Nat) : Int := qF c s ws i + if served (rF c s ws) ws.length left i then 1 else 0
def rowF (f : Nat → Int) (n : Nat) : List Int := (List.range n).map f
theorem rowF_len (f : Nat → Int) (n : Nat) : (rowF f n).length = n := by simp [rowF]
theorem rowF_get (f : Nat → Int) {n k : Nat} (h : k < n) : (rowF f n)[k]? = some (f k) := by
  unfold rowF
  rw [List.getElem?_map, List.getElem?_range h]
  rfl
def updF (f : Nat → Int) (k : Nat) (v : Int) : Nat → Int := fun i => if i = k then v else f i
theorem rowF_set (f : Nat → Int) (n k : Nat) (v : Int) : (rowF f n).set k v = rowF (updF f k v) n := by
  apply List.ext_getElem?
  intro j
  rw [List.getElem?_set, rowF_len]
  by_cases hk : k = j
  · subst hk
    by_cases hn : k < n
    · rw [if_pos rfl, if_pos hn, rowF_get _ hn]; simp [updF]
    · rw [if_pos rfl, if_neg hn, List.getElem?_eq_none (by rw [rowF_len]; omega)]
  · rw [if_neg hk]
    by_cases hj : j < n
    · rw [rowF_get _ hj, rowF_get _ hj]; simp [updF, Ne.symm hk]
    · rw [List.getElem?_eq_none (by rw [rowF_len]; omega), List.getElem?_eq_none (by rw [rowF_len]; omega)]
theorem rowF_congr {f g : Nat → Int} {n : Nat} (h : ∀ i, i < n → f i = g i) : rowF f n = rowF g n := by
  unfold rowF
  exact List.map_congr_left (fun i hi => h i (List.mem_range.1 hi))
theorem rowF_self (l : List Int) : rowF (fun i => l.getD i 0) l.length = l := by
  apply List.ext_getElem?
  intro j
  by_cases hj : j < l.length
  · rw [rowF_get _ hj, List.getElem?_eq_getElem hj, List.getD_eq_getElem?_getD, List.getElem?_eq_getElem hj]; rfl
  · rw [List.getElem?_eq_none (by rw [rowF_len]; omega), List.getElem?_eq_none (by omega)]
theorem rowF_succ (f : Nat → Int) (n : Nat) : rowF f (n + 1) = rowF f n ++ [f n] := by
  unfold rowF
  rw [List.range_succ, List.map_append]; rfl
theorem sum_rowF_add (f g : Nat → Int) (n : Nat) : sumL (rowF (fun i => f i + g i) n) = sumL (rowF f n) + sumL (rowF g n) := by
  induction n with
  | zero => rfl
  | succ n ih => rw [rowF_succ, rowF_succ, rowF_succ, sumL_append, sumL_append, sumL_append, ih]; simp [sumL]; omega
theorem sum_rowF_mul (a : Int) (f : Nat → Int) (n : Nat) : sumL (rowF (fun i => a * f i) n) = a * sumL (rowF f n) := by
  induction n with
  | zero => simp [rowF, sumL]
  | succ n ih => rw [rowF_succ, rowF_succ, sumL_append, sumL_append, ih, Int.mul_add]; simp [sumL]
theorem sum_rowF_le {f : Nat → Int} {b : Int} {n : Nat} (h : ∀ i, i < n → f i ≤ b) : sumL (rowF f n) ≤ b * n := by
  induction n with
  | zero => simp [rowF, sumL]
  | succ n ih =>
    have h1 := ih (fun i hi => h i (by omega))
    have h2 := h n (by omega)
    rw [rowF_succ, sumL_append]
    have e : b * ((n + 1 : Nat) : Int) = b * n + b := by rw [Int.natCast_add, Int.mul_add]; simp
    rw [e]
    simp [sumL] at *
    omega
theorem sum_rowF_nonneg {f : Nat → Int} {n : Nat} (h : ∀ i, i < n → 0 ≤ f i) : 0 ≤ sumL (rowF f n) := by
  induction n with
  | zero => simp [rowF, sumL]
  | succ n ih =>
    have h1 := ih (fun i hi => h i (by omega))
    have h2 := h n (by omega)
    rw [rowF_succ, sumL_append]
    simp [sumL] at *
    omega
/-- What is left over when all have their whole parts. -/
def leftF (c s : Int) (ws : List Int) : Int := c - sumL (rowF (qF c s ws) ws.length)
theorem left_eq {c s : Int} {ws : List Int} (hs : sumL ws = s) : s * leftF c s ws = sumL (rowF (rF c s ws) ws.length) := by
  have e1 : sumL (rowF (fun i => s * qF c s ws i + rF c s ws i) ws.length) = sumL (rowF (fun i => c * ws.getD i 0) ws.length) := by
    rw [rowF_congr]
    intro i _
    exact Int.mul_ediv_add_emod _ _
  rw [sum_rowF_add, sum_rowF_mul, sum_rowF_mul, rowF_self, hs] at e1
  unfold leftF
  rw [Int.mul_sub]
  have e2 : s * c = c * s := Int.mul_comm _ _
  omega
theorem left_bound {c s : Int} {ws : List Int} (hs : sumL ws = s) (h0 : 0 < s) (hn : 0 < ws.length) : 0 ≤ leftF c s ws ∧ leftF c s ws < ws.length := by
  have e := left_eq (c := c) hs
  have h1 : 0 ≤ sumL (rowF (rF c s ws) ws.length) := sum_rowF_nonneg (fun i _ => Int.emod_nonneg _ (by omega))
  have h2 : sumL (rowF (rF c s ws) ws.length) ≤ (s - 1) * ws.length := sum_rowF_le (fun i _ => by have := Int.emod_lt_of_pos (c * ws.getD i 0) h0; unfold rF; omega)
  rw [← e] at h1 h2
  constructor
  · by_cases h : 0 ≤ leftF c s ws
    · exact h
    · have : s * leftF c s ws < 0 := Int.mul_neg_of_pos_of_neg h0 (by omega)
      omega
  · by_cases h : leftF c s ws < ws.length
    · exact h
    · have h3 : s * (ws.length : Int) ≤ s * leftF c s ws := Int.mul_le_mul_of_nonneg_left (by omega) (by omega)
      have h4 : (s - 1) * (ws.length : Int) = s * ws.length - ws.length := by rw [Int.sub_mul, Int.one_mul]
      omega
end Go.Proofs.YtgjeihgkcmheeaaDoor
