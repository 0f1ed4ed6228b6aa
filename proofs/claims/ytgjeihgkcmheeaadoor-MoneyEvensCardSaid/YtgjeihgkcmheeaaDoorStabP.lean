/- The library's stable sort, plainly: a strict weak order on numbers, the numbers' own order beside it; what a rotation makes of two sorted rows. No program. -/
import Derived.Sort.Lot0
import Derived.Sort.LotA
import Derived.Sort.LotD2
namespace Go.Proofs.YtgjeihgkcmheeaaDoor
open Go.Sort

/-- The order in which a stable sort of rising places puts them. -/
def stb (lt : Int → Int → Bool) (x y : Int) : Bool := lt x y || (!lt y x && decide (x < y))
section
variable {lt : Int → Int → Bool}
theorem swo_asym (h : SWO lt) {x y : Int} (hx : lt x y = true) : lt y x = false := by
  cases hy : lt y x with
  | false => rfl
  | true => exact absurd (h.trans x y x hx hy) (by rw [h.irrefl]; simp)
theorem swo_mid (h : SWO lt) {x z : Int} (y : Int) (hx : lt x z = true) : lt x y = true ∨ lt y z = true := by
  cases h1 : lt x y with
  | true => exact .inl rfl
  | false =>
    cases h2 : lt y z with
    | true => exact .inr rfl
    | false => rw [h.ntrans x y z h1 h2] at hx; cases hx
theorem stb_true {x y : Int} : stb lt x y = true ↔ lt x y = true ∨ (lt y x = false ∧ x < y) := by
  unfold stb
  simp
theorem stb_false {x y : Int} : stb lt x y = false ↔ lt x y = false ∧ (lt y x = true ∨ y ≤ x) := by
  rw [← Bool.not_eq_true, stb_true]
  cases lt x y <;> cases lt y x <;> simp <;> omega
theorem stb_swo (h : SWO lt) : SWO (stb lt) := by
  refine ⟨fun x => by rw [stb_false]; exact ⟨h.irrefl x, .inr (Int.le_refl _)⟩, fun x y z h1 h2 => ?_, fun x y z h1 h2 => ?_⟩
  · rw [stb_true] at h1 h2 ⊢
    rcases h1 with h1 | ⟨h1, h1'⟩ <;> rcases h2 with h2 | ⟨h2, h2'⟩
    · exact .inl (h.trans _ _ _ h1 h2)
    · rcases swo_mid h z h1 with h3 | h3
      · exact .inl h3
      · rw [h2] at h3; cases h3
    · rcases swo_mid h x h2 with h3 | h3
      · rw [h1] at h3; cases h3
      · exact .inl h3
    · cases h3 : lt x z with
      | true => exact .inl rfl
      | false => exact .inr ⟨h.ntrans _ _ _ h2 h1, by omega⟩
  · rw [stb_false] at h1 h2 ⊢
    refine ⟨h.ntrans _ _ _ h1.1 h2.1, ?_⟩
    rcases h1.2 with h3 | h3
    · rcases swo_mid h z h3 with h4 | h4
      · rw [h2.1] at h4; cases h4
      · exact .inl h4
    · rcases h2.2 with h4 | h4
      · rcases swo_mid h x h4 with h5 | h5
        · exact .inl h5
        · rw [h1.1] at h5; cases h5
      · exact .inr (by omega)
theorem stb_eq (h : SWO lt) {x y : Int} (h1 : stb lt x y = false) (h2 : stb lt y x = false) : x = y := by
  rw [stb_false] at h1 h2
  rcases h1.2 with h3 | h3
  · rw [h2.1] at h3; cases h3
  · rcases h2.2 with h4 | h4
    · rw [h1.1] at h4; cases h4
    · omega
/-- A later place against an earlier one: just the order itself. -/
theorem stb_gt (h : SWO lt) {x y : Int} (hxy : y < x) : stb lt x y = lt x y := by
  cases hl : lt x y with
  | true => exact stb_true.2 (.inl hl)
  | false => exact stb_false.2 ⟨hl, .inr (by omega)⟩

/-! ### Two rows turned about -/
/-- d with its parts [s, m) and [m, e) in each other's place. -/
def rotv (d : Array Int) (s m e x : Nat) : Int := if x < s ∨ e ≤ x then d[x]! else if x < s + (e - m) then d[x + (m - s)]! else d[x - (e - m)]!

/-- Every one of [m, b) is a later place than every one of [a, m). -/
def Cross (a m b : Nat) (d : Array Int) : Prop := ∀ i j, a ≤ i → i < m → m ≤ j → j < b → d[i]! < d[j]!

theorem sorted_le (hS : SWO lt) {a b i j : Nat} {d : Array Int} (h : SortedIn lt a b d) (hi : a ≤ i) (hij : i ≤ j) (hj : j < b) : lt d[j]! d[i]! = false := by
  rcases Nat.eq_or_lt_of_le hij with rfl | h1
  · exact hS.irrefl _
  · exact h i j hi h1 hj

theorem halves (hS : SWO lt) {a m b s e : Nat} {d d' : Array Int} (h1 : SortedIn (stb lt) a m d) (h2 : SortedIn (stb lt) m b d) (hc : Cross a m b d) (has : a ≤ s) (hsm : s ≤ m) (hme : m ≤ e) (heb : e ≤ b)
    (c1 : s = a ∨ e = b ∨ lt d[e]! d[s - 1]! = false) (c2 : s = m ∨ e = m ∨ lt d[e - 1]! d[s]! = true) (hd : ∀ x, d'[x]! = rotv d s m e x) :
    (SortedIn (stb lt) a s d' ∧ SortedIn (stb lt) s (s + (e - m)) d' ∧ Cross a s (s + (e - m)) d') ∧ (SortedIn (stb lt) (s + (e - m)) e d' ∧ SortedIn (stb lt) e b d' ∧ Cross (s + (e - m)) e b d') ∧
    ∀ i j, a ≤ i → i < s + (e - m) → s + (e - m) ≤ j → j < b → stb lt d'[j]! d'[i]! = false := by
  have hT := stb_swo hS
  have v1 : ∀ x, x < s → d'[x]! = d[x]! := fun x hx => by rw [hd, rotv, if_pos (.inl hx)]
  have v2 : ∀ x, s ≤ x → x < s + (e - m) → d'[x]! = d[x + (m - s)]! := fun x hx hy => by rw [hd, rotv, if_neg (by omega), if_pos hy]
  have v3 : ∀ x, s + (e - m) ≤ x → x < e → d'[x]! = d[x - (e - m)]! := fun x hx hy => by rw [hd, rotv, if_neg (by omega), if_neg (by omega)]
  have v4 : ∀ x, e ≤ x → d'[x]! = d[x]! := fun x hx => by rw [hd, rotv, if_pos (.inr hx)]
  refine ⟨⟨fun i j hi hij hj => ?_, fun i j hi hij hj => ?_, fun i j hi him hj hjb => ?_⟩, ⟨fun i j hi hij hj => ?_, fun i j hi hij hj => ?_, fun i j hi him hj hjb => ?_⟩, fun i j hi him hj hjb => ?_⟩
  · rw [v1 i (by omega), v1 j hj]; exact h1 i j hi hij (by omega)
  · rw [v2 i hi (by omega), v2 j (by omega) hj]; exact h2 _ _ (by omega) (by omega) (by omega)
  · rw [v1 i him, v2 j hj hjb]; exact hc _ _ hi (by omega) (by omega) (by omega)
  · rw [v3 i hi (by omega), v3 j (by omega) hj]; exact h1 _ _ (by omega) (by omega) (by omega)
  · rw [v4 i hi, v4 j (by omega)]; exact h2 i j (by omega) hij hj
  · rw [v3 i hi him, v4 j hj]; exact hc _ _ (by omega) (by omega) (by omega) hjb
  · rcases Nat.lt_or_ge i s with hi1 | hi1 <;> rcases Nat.lt_or_ge j e with hj1 | hj1
    · rw [v1 i hi1, v3 j hj hj1]; exact h1 _ _ hi (by omega) (by omega)
    · rw [v1 i hi1, v4 j hj1]
      have k1 : lt d[e]! d[s - 1]! = false := by
        rcases c1 with c | c | c
        · omega
        · omega
        · exact c
      have k2 : stb lt d[e]! d[s - 1]! = false := by rw [stb_gt hS (hc (s - 1) e (by omega) (by omega) hme (by omega))]; exact k1
      exact hT.ntrans _ _ _ (sorted_le hT h2 hme hj1 hjb) (hT.ntrans _ _ _ k2 (sorted_le hT h1 hi (show i ≤ s - 1 by omega) (by omega)))
    · rw [v2 i hi1 him, v3 j hj hj1]
      have k1 : lt d[e - 1]! d[s]! = true := by
        rcases c2 with c | c | c
        · omega
        · omega
        · exact c
      have k2 : stb lt d[e - 1]! d[s]! = true := by rw [stb_gt hS (hc s (e - 1) has (by omega) (by omega) (by omega))]; exact k1
      cases hb : stb lt d[j - (e - m)]! d[i + (m - s)]! with
      | false => rfl
      | true =>
        rcases swo_mid hT d[j - (e - m)]! k2 with k3 | k3
        · have k4 := hT.trans _ _ _ k3 hb
          rw [sorted_le hT h2 (show m ≤ i + (m - s) by omega) (show i + (m - s) ≤ e - 1 by omega) (by omega)] at k4
          cases k4
        · rw [sorted_le hT h1 has (show s ≤ j - (e - m) by omega) (by omega)] at k3
          cases k3
    · rw [v2 i hi1 him, v4 j hj1]; exact h2 _ _ (by omega) (by omega) hjb

theorem glue (hS : SWO lt) {a m b : Nat} {d : Array Int} (h1 : SortedIn lt a m d) (h2 : SortedIn lt m b d) (hx : ∀ i j, a ≤ i → i < m → m ≤ j → j < b → lt d[j]! d[i]! = false) : SortedIn lt a b d := fun i j hi hij hj => by
  rcases Nat.lt_or_ge j m with hj1 | hj1
  · exact h1 i j hi hij hj1
  · rcases Nat.lt_or_ge i m with hi1 | hi1
    · exact hx i j hi hi1 hj1 hj
    · exact h2 i j hi1 hij hj
theorem sorted_short {a b : Nat} {d : Array Int} (h : b ≤ a + 1) : SortedIn lt a b d := fun i j hi hij hj => by omega

/-! ### What a rotation is made of -/
/-- Two parts of n exchanged. -/
def swv (d : Array Int) (a b n x : Nat) : Int := if a ≤ x ∧ x < a + n then d[x - a + b]! else if b ≤ x ∧ x < b + n then d[x - b + a]! else d[x]!
theorem rot_left {d d' : Array Int} {m i j : Nat} (hi : i ≤ m) (hij : j < i) (hd : ∀ x, d'[x]! = swv d (m - i) m j x) (x : Nat) : rotv d' (m - i + j) m (m + j) x = rotv d (m - i) m (m + j) x := by
  unfold rotv
  simp only [hd]
  unfold swv
  repeat' split
  all_goals first | omega | rfl | (congr 1; omega)
theorem rot_right {d d' : Array Int} {m i j : Nat} (hi : i ≤ m) (hij : i < j) (hd : ∀ x, d'[x]! = swv d (m - i) (m + j - i) i x) (x : Nat) : rotv d' (m - i) m (m + (j - i)) x = rotv d (m - i) m (m + j) x := by
  unfold rotv
  simp only [hd]
  unfold swv
  repeat' split
  all_goals first | omega | rfl | (congr 1; omega)
theorem rot_end {d d' : Array Int} {m i : Nat} (hi : i ≤ m) (hd : ∀ x, d'[x]! = swv d (m - i) m i x) (x : Nat) : d'[x]! = rotv d (m - i) m (m + i) x := by
  unfold rotv
  simp only [hd]
  unfold swv
  repeat' split
  all_goals first | omega | rfl | (congr 1; omega)
theorem swv_zero (d : Array Int) (a b x : Nat) : swv d a b 0 x = d[x]! := by
  unfold swv
  rw [if_neg (by omega), if_neg (by omega)]
/-- One exchange more. -/
theorem swv_step {d dk : Array Int} {a b n k : Nat} (hab : a + n ≤ b) (hk : k < n) (hb : b + n ≤ d.size) (hz : dk.size = d.size) (hd : ∀ x, dk[x]! = swv d a b k x) (x : Nat) : (swp dk (a + k) (b + k))[x]! = swv d a b (k + 1) x := by
  by_cases h1 : x = a + k
  · subst h1
    rw [swp_left _ _ _ (by omega) (by omega), hd]
    unfold swv
    repeat' split
    all_goals first | omega | rfl | (congr 1; omega)
  · by_cases h2 : x = b + k
    · subst h2
      rw [swp_right _ _ _ (by omega), hd]
      unfold swv
      repeat' split
      all_goals first | omega | rfl | (congr 1; omega)
    · rw [swp_other _ _ _ _ h1 h2, hd]
      unfold swv
      repeat' split
      all_goals first | omega | rfl | (congr 1; omega)
/-- One place carried up, and down. -/
theorem up_step {d dk : Array Int} {a k : Nat} (hk : a ≤ k) (hz : dk.size = d.size) (hb : k + 1 < d.size) (hd : ∀ x, dk[x]! = rotv d a (a + 1) (k + 1) x) (x : Nat) : (swp dk k (k + 1))[x]! = rotv d a (a + 1) (k + 1 + 1) x := by
  by_cases h1 : x = k
  · subst h1
    rw [swp_left _ _ _ (by omega) (by omega), hd]
    unfold rotv
    repeat' split
    all_goals first | omega | rfl | (congr 1; omega)
  · by_cases h2 : x = k + 1
    · subst h2
      rw [swp_right _ _ _ (by omega), hd]
      unfold rotv
      repeat' split
      all_goals first | omega | rfl | (congr 1; omega)
    · rw [swp_other _ _ _ _ h1 h2, hd]
      unfold rotv
      repeat' split
      all_goals first | omega | rfl | (congr 1; omega)
theorem down_step {d dk : Array Int} {m k : Nat} (hk0 : 0 < k) (hk : k ≤ m) (hz : dk.size = d.size) (hb : m < d.size) (hd : ∀ x, dk[x]! = rotv d k m (m + 1) x) (x : Nat) : (swp dk k (k - 1))[x]! = rotv d (k - 1) m (m + 1) x := by
  by_cases h1 : x = k
  · subst h1
    rw [swp_left _ _ _ (by omega) (by omega), hd]
    unfold rotv
    repeat' split
    all_goals first | omega | rfl | (congr 1; omega)
  · by_cases h2 : x = k - 1
    · subst h2
      rw [swp_right _ _ _ (by omega), hd]
      unfold rotv
      repeat' split
      all_goals first | omega | rfl | (congr 1; omega)
    · rw [swp_other _ _ _ _ h1 h2, hd]
      unfold rotv
      repeat' split
      all_goals first | omega | rfl | (congr 1; omega)
theorem rotv_none (d : Array Int) {s m e : Nat} (h : s = m ∨ e = m) (x : Nat) (hsm : s ≤ m) (hme : m ≤ e) : rotv d s m e x = d[x]! := by
  unfold rotv
  repeat' split
  all_goals first | omega | rfl | (congr 1; omega)

/-! ### The insertion sort of rising places -/
theorem insInner_perm (a : Nat) : ∀ (j : Nat) (d : Array Int), a ≤ j → j < d.size → PermIn a (j + 1) d (insInner lt a j d)
  | 0, d, _, _ => by unfold insInner; exact permIn_refl d a 1
  | j + 1, d, haj, hj => by
    unfold insInner
    split
    · rename_i hc
      simp only [Bool.and_eq_true, decide_eq_true_eq] at hc
      have h1 := insInner_perm a j (swp d (j + 1) j) (by omega) (by rw [size_swp]; omega)
      exact permIn_trans _ _ _ _ _ (swp_permIn d a (j + 1 + 1) (j + 1) j (by omega) (by omega) (by omega) (by omega) (by omega)) (permIn_mono _ _ a (j + 1) a (j + 1 + 1) (Nat.le_refl _) (by omega) (by rw [size_swp]; omega) h1)
    · exact permIn_refl d a _
theorem insInner_agree (hS : SWO lt) (a : Nat) : ∀ (j : Nat) (d : Array Int), j < d.size → (∀ p, a ≤ p → p < j → d[p]! < d[j]!) → insInner lt a j d = insInner (stb lt) a j d
  | 0, d, _, _ => by unfold insInner; rfl
  | j + 1, d, hj, hr => by
    unfold insInner
    by_cases haj : a ≤ j
    · rw [stb_gt hS (hr j haj (by omega))]
      split
      · refine insInner_agree hS a j _ (by rw [size_swp]; omega) (fun p hp hpj => ?_)
        rw [swp_other d (j + 1) j p (by omega) (by omega), swp_right d (j + 1) j (by omega)]
        exact hr p hp (by omega)
      · rfl
    · have h0 : decide (j + 1 > a) = false := by simp; omega
      rw [h0]
      simp
theorem insOuter_agree (hS : SWO lt) (a b : Nat) : ∀ (n i : Nat) (d : Array Int), b - i = n → a ≤ i → b ≤ d.size → (∀ p q, a ≤ p → p < q → i ≤ q → q < b → d[p]! < d[q]!) → insOuter lt a b i d = insOuter (stb lt) a b i d
  | 0, i, d, hn, _, _, _ => by rw [insOuter, if_neg (by omega), insOuter, if_neg (by omega)]
  | n + 1, i, d, hn, hai, hb, hr => by
    rw [insOuter, if_pos (by omega)]
    conv => rhs; rw [insOuter, if_pos (by omega)]
    have hp := insInner_perm (lt := lt) a i d hai (by omega)
    rw [← insInner_agree hS a i d (by omega) (fun p hp hpi => hr p i hp hpi (Nat.le_refl _) (by omega))]
    refine insOuter_agree hS a b n (i + 1) _ (by omega) (by omega) (by rw [hp.1]; exact hb) (fun p q hap hpq hiq hqb => ?_)
    rw [hp.2.1 q (.inr hiq)]
    rcases Nat.lt_or_ge p (i + 1) with h1 | h1
    · exact permIn_all d _ a (i + 1) (fun x => x < d[q]!) (by omega) hp (fun t ht hti => hr t q ht (by omega) (by omega) hqb) p hap h1
    · rw [hp.2.1 p (.inr h1)]
      exact hr p q hap hpq (by omega) hqb
theorem ins_sorted (hS : SWO lt) {a b : Nat} {d : Array Int} (hab : a ≤ b) (hb : b ≤ d.size) (hr : ∀ p q, a ≤ p → p < q → q < b → d[p]! < d[q]!) : PermIn a b d (insertionSort lt d a b) ∧ SortedIn (stb lt) a b (insertionSort lt d a b) := by
  refine ⟨(insertionSort_holds hS d a b hab hb).1, ?_⟩
  have e : insertionSort lt d a b = insertionSort (stb lt) d a b := insOuter_agree hS a b _ (a + 1) d rfl (by omega) hb (fun p q hp hpq _ hq => hr p q hp hpq hq)
  rw [e]
  exact (insertionSort_holds (stb_swo hS) d a b hab hb).2

/-! ### The rows of one level -/
/-- The row [a, b) is sorted, and holds places out of [a, b) alone. -/
def Good (lt : Int → Int → Bool) (a b : Nat) (d : Array Int) : Prop := SortedIn (stb lt) a b d ∧ ∀ i, a ≤ i → i < b → (a : Int) ≤ d[i]! ∧ d[i]! < (b : Int)
theorem Good.same {a b lo hi : Nat} {d d' : Array Int} (h : Good lt a b d) (hp : PermIn lo hi d d') (hx : b ≤ lo ∨ hi ≤ a) : Good lt a b d' := by
  have e : ∀ i, a ≤ i → i < b → d'[i]! = d[i]! := fun i hi hib => hp.2.1 i (by omega)
  exact ⟨fun i j hi hij hj => by rw [e i hi (by omega), e j (by omega) hj]; exact h.1 i j hi hij hj, fun i hi hib => by rw [e i hi hib]; exact h.2 i hi hib⟩
theorem Good.cross {a m b : Nat} {d : Array Int} (h1 : Good lt a m d) (h2 : Good lt m b d) : Cross a m b d := fun i j hi him hj hjb => by
  have := (h1.2 i hi him).2
  have := (h2.2 j hj hjb).1
  omega
theorem Good.merge {a m b : Nat} {d d' : Array Int} (h1 : Good lt a m d) (h2 : Good lt m b d) (hb : b ≤ d.size) (ham : a ≤ m) (hmb : m ≤ b) (hp : PermIn a b d d') (hs : SortedIn (stb lt) a b d') : Good lt a b d' :=
  ⟨hs, permIn_all d d' a b (fun x => (a : Int) ≤ x ∧ x < (b : Int)) hb hp (fun i hi hib => by
    rcases Nat.lt_or_ge i m with h | h
    · have := h1.2 i hi h; omega
    · have := h2.2 i h hib; omega)⟩
theorem good_ins (hS : SWO lt) {a b : Nat} {d : Array Int} (hab : a ≤ b) (hb : b ≤ d.size) (hr : ∀ i, a ≤ i → i < b → d[i]! = (i : Int)) : PermIn a b d (insertionSort lt d a b) ∧ Good lt a b (insertionSort lt d a b) := by
  obtain ⟨h1, h2⟩ := ins_sorted hS hab hb (fun p q hp hpq hq => by rw [hr p hp (by omega), hr q (by omega) hq]; omega)
  exact ⟨h1, h2, permIn_all d _ a b (fun x => (a : Int) ≤ x ∧ x < (b : Int)) hb h1 (fun i hi hib => by rw [hr i hi hib]; omega)⟩

/-- The one of [a, a + 1) among the others. -/
theorem merge_left (hS : SWO lt) {a b i : Nat} {d d' : Array Int} (h2 : SortedIn (stb lt) (a + 1) b d) (hc : Cross a (a + 1) b d) (hi : a + 1 ≤ i) (hib : i ≤ b) (c1 : i = a + 1 ∨ lt d[i - 1]! d[a]! = true) (c2 : i = b ∨ lt d[i]! d[a]! = false) (hd : ∀ x, d'[x]! = rotv d a (a + 1) i x) : SortedIn (stb lt) a b d' := by
  have hT := stb_swo hS
  obtain ⟨⟨_, A2, _⟩, ⟨B1, B2, _⟩, X⟩ := halves hS (sorted_short (Nat.le_refl _)) h2 hc (Nat.le_refl a) (Nat.le_succ a) hi hib (.inl rfl) (by rcases c1 with c | c; exact .inr (.inl c); exact .inr (.inr c)) hd
  refine glue hT A2 (glue hT B1 B2 (fun p q hp hpi hq hqb => ?_)) X
  obtain rfl : p = a + (i - (a + 1)) := by omega
  have e1 : d'[a + (i - (a + 1))]! = d[a]! := by
    rw [hd, rotv, if_neg (by omega), if_neg (by omega)]
    congr 1
    omega
  have e2 : d'[q]! = d[q]! := by rw [hd, rotv, if_pos (.inr hq)]
  rw [e1, e2]
  have k1 : lt d[i]! d[a]! = false := by
    rcases c2 with c | c
    · omega
    · exact c
  have k2 : stb lt d[i]! d[a]! = false := by rw [stb_gt hS (hc a i (Nat.le_refl _) (by omega) hi (by omega))]; exact k1
  exact hT.ntrans _ _ _ (sorted_le hT h2 hi hq hqb) k2
/-- The one of [m, m + 1) among the others. -/
theorem merge_right (hS : SWO lt) {a m s : Nat} {d d' : Array Int} (h1 : SortedIn (stb lt) a m d) (hc : Cross a m (m + 1) d) (has : a ≤ s) (hsm : s ≤ m) (c1 : s = a ∨ lt d[m]! d[s - 1]! = false) (c2 : s = m ∨ lt d[m]! d[s]! = true) (hd : ∀ x, d'[x]! = rotv d s m (m + 1) x) : SortedIn (stb lt) a (m + 1) d' := by
  have hT := stb_swo hS
  obtain ⟨⟨A1, A2, _⟩, ⟨B1, B2, _⟩, X⟩ := halves hS h1 (sorted_short (Nat.le_refl (m + 1))) hc has hsm (Nat.le_succ m) (Nat.le_refl (m + 1)) (.inr (.inl rfl)) (by rcases c2 with c | c; exact .inl c; exact .inr (.inr (by simpa using c))) hd
  refine glue hT (glue hT A1 A2 (fun p q hp hps hq hqs => ?_)) B1 X
  obtain rfl : q = s := by omega
  have e1 : d'[q]! = d[m]! := by
    rw [hd, rotv, if_neg (by omega), if_pos (by omega)]
    congr 1
    omega
  have e2 : d'[p]! = d[p]! := by rw [hd, rotv, if_pos (.inl hps)]
  rw [e1, e2]
  have k1 : lt d[m]! d[q - 1]! = false := by
    rcases c1 with c | c
    · omega
    · exact c
  have k2 : stb lt d[m]! d[q - 1]! = false := by rw [stb_gt hS (hc (q - 1) m (by omega) (by omega) (Nat.le_refl _) (by omega))]; exact k1
  exact hT.ntrans _ _ _ k2 (sorted_le hT h1 hp (show p ≤ q - 1 by omega) (by omega))
end
end Go.Proofs.YtgjeihgkcmheeaaDoor
