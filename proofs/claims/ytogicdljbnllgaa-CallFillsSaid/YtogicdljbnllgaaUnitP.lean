/- The units of a run of trades, one by one: plain. -/
import Derived.Test.YtogicdljbnllgaaRefU
namespace Go.Proofs.Ytogicdljbnllgaa
open Go.Shelf Go.RowKit Go.Lib Go.Sort Go.Proofs

/-- The want that the k-th unit is of. -/
def unitX : List Tri → Int → Option Tri
  | [], _ => none
  | x :: L, k => if k ≤ x.2.2 then some x else unitX L (k - x.2.2)
theorem unitR_X : ∀ (L : List Tri) (k : Int), unitR L k = match unitX L k with | none => -1 | some x => x.1
  | [], _ => rfl
  | x :: L, k => by
    simp only [unitR, unitX]
    by_cases h : k ≤ x.2.2
    · rw [if_pos (by omega), if_pos h]
    · rw [if_neg (by omega), if_neg h, unitR_X L]
theorem unitX_mem : ∀ {L : List Tri} {k : Int} {x : Tri}, unitX L k = some x → x ∈ L
  | [], _, _, h => by cases h
  | y :: L, k, x, h => by
    simp only [unitX] at h
    split at h
    · cases h; exact List.mem_cons_self
    · exact List.mem_cons_of_mem _ (unitX_mem h)
def totT (L : List Tri) : Int := (L.map fun x => x.2.2).sum
theorem unitX_in : ∀ {L : List Tri} {k : Int}, CountT L → 1 ≤ k → (k ≤ totT L ↔ ∃ x, unitX L k = some x)
  | [], k, _, hk => by
    constructor
    · intro h; simp [totT] at h; omega
    · rintro ⟨x, h⟩; cases h
  | y :: L, k, hc, hk => by
    have hy := hc y List.mem_cons_self
    have e : totT (y :: L) = y.2.2 + totT L := by simp [totT]
    have hnn : 0 ≤ totT L := by
      clear e
      have hc' := hc.tail
      clear hc hy
      induction L with
      | nil => simp [totT]
      | cons z L ih =>
        have h1 := hc' z List.mem_cons_self
        have h2 := ih hc'.tail
        simp only [totT, List.map_cons, List.sum_cons] at h2 ⊢
        omega
    simp only [unitX]
    by_cases h : k ≤ y.2.2
    · rw [if_pos h]
      exact ⟨fun _ => ⟨y, rfl⟩, fun _ => by omega⟩
    · rw [if_neg h, ← unitX_in (L := L) (k := k - y.2.2) hc.tail (by omega), e]
      omega
theorem unitX_hd {x : Tri} {L : List Tri} {k : Int} (h : k ≤ x.2.2) : unitX (x :: L) k = some x := by simp only [unitX, if_pos h]
theorem unitX_tl {x : Tri} {L : List Tri} {k : Int} (h : 0 < k) : unitX (x :: L) (x.2.2 + k) = unitX L k := by
  simp only [unitX]
  rw [if_neg (by omega)]
  congr 1
  omega
theorem run_unit_next {bs ss : List Tri} {g w : Int} (hm : MidW bs ss g w) : (unitX bs (g + sumT (runW bs ss g w).1 + 1)).map unitT = (runW bs ss g w).2.1 ∧ (unitX ss (w + sumT (runW bs ss g w).1 + 1)).map unitT = (runW bs ss g w).2.2 := by
  refine run_ind (P := fun bs ss g w => (unitX bs (g + sumT (runW bs ss g w).1 + 1)).map unitT = (runW bs ss g w).2.1 ∧ (unitX ss (w + sumT (runW bs ss g w).1 + 1)).map unitT = (runW bs ss g w).2.2) ?_ ?_ ?_ ?_ ?_ ?_ (bs.length + ss.length) bs ss g w (Nat.le_refl _) hm
  · intro ss g w hm
    rw [runW_nil']
    refine ⟨rfl, ?_⟩
    cases ss with
    | nil => rfl
    | cons y ss => have := hm.hw y rfl; rw [unitX_hd (by simp [sumT]; omega)]; rfl
  · intro x bs g w hm
    rw [runW_nil]
    have := hm.hg x rfl
    exact ⟨by rw [unitX_hd (by simp [sumT]; omega)]; rfl, rfl⟩
  · intro x y bs ss g w hm hlow
    rw [runW_low _ _ _ _ hlow]
    have h1 := hm.hg x rfl
    have h2 := hm.hw y rfl
    exact ⟨by rw [unitX_hd (by simp [sumT]; omega)]; rfl, by rw [unitX_hd (by simp [sumT]; omega)]; rfl⟩
  · intro x y bs ss g w hm hlow hlt ih
    have h0 := run_sum (hm.b hlt)
    rw [runW_b _ _ _ _ hlow hlt, sumT_cons]
    generalize runW bs (y :: ss) 0 (w + (x.2.2 - g)) = R at *
    simp only
    rw [show g + (x.2.2 - g + sumT R.1) + 1 = x.2.2 + (0 + sumT R.1 + 1) by omega, unitX_tl (by omega), show w + (x.2.2 - g + sumT R.1) + 1 = w + (x.2.2 - g) + sumT R.1 + 1 by omega]
    exact ih
  · intro x y bs ss g w hm hlow hgt ih
    have h0 := run_sum (hm.s hgt)
    rw [runW_s _ _ _ _ hlow hgt, sumT_cons]
    generalize runW (x :: bs) ss (g + (y.2.2 - w)) 0 = R at *
    simp only
    rw [show w + (y.2.2 - w + sumT R.1) + 1 = y.2.2 + (0 + sumT R.1 + 1) by omega, unitX_tl (by omega), show g + (y.2.2 - w + sumT R.1) + 1 = g + (y.2.2 - w) + sumT R.1 + 1 by omega]
    exact ih
  · intro x y bs ss g w hm hlow heq ih
    have h0 := run_sum hm.e
    rw [runW_e _ _ _ _ hlow heq, sumT_cons]
    generalize runW bs ss 0 0 = R at *
    simp only
    rw [show g + (x.2.2 - g + sumT R.1) + 1 = x.2.2 + (0 + sumT R.1 + 1) by omega, unitX_tl (by omega), show w + (x.2.2 - g + sumT R.1) + 1 = y.2.2 + (0 + sumT R.1 + 1) by omega, unitX_tl (by omega)]
    exact ih
/-- The units that meet. -/
theorem run_unit_meet {bs ss : List Tri} {g w : Int} (hm : MidW bs ss g w) : ∀ k, 1 ≤ k → k ≤ sumT (runW bs ss g w).1 → ∃ x y, unitX bs (g + k) = some x ∧ unitX ss (w + k) = some y ∧ y.2.1 ≤ x.2.1 := by
  refine run_ind (P := fun bs ss g w => ∀ k, 1 ≤ k → k ≤ sumT (runW bs ss g w).1 → ∃ x y, unitX bs (g + k) = some x ∧ unitX ss (w + k) = some y ∧ y.2.1 ≤ x.2.1) ?_ ?_ ?_ ?_ ?_ ?_ (bs.length + ss.length) bs ss g w (Nat.le_refl _) hm
  · intro ss g w hm k h1 h2; rw [runW_nil'] at h2; simp [sumT] at h2; omega
  · intro x bs g w hm k h1 h2; rw [runW_nil] at h2; simp [sumT] at h2; omega
  · intro x y bs ss g w hm hlow k h1 h2; rw [runW_low _ _ _ _ hlow] at h2; simp [sumT] at h2; omega
  · intro x y bs ss g w hm hlow hlt ih k h1 h2
    rw [runW_b _ _ _ _ hlow hlt, sumT_cons] at h2
    simp only at h2
    by_cases hk : k ≤ x.2.2 - g
    · exact ⟨x, y, unitX_hd (by omega), unitX_hd (by omega), by omega⟩
    · obtain ⟨x', y', e1, e2, e3⟩ := ih (k - (x.2.2 - g)) (by omega) (by omega)
      refine ⟨x', y', ?_, ?_, e3⟩
      · rw [← e1, show g + k = x.2.2 + (0 + (k - (x.2.2 - g))) by omega, unitX_tl (by omega)]
      · rw [← e2]; congr 1; omega
  · intro x y bs ss g w hm hlow hgt ih k h1 h2
    rw [runW_s _ _ _ _ hlow hgt, sumT_cons] at h2
    simp only at h2
    by_cases hk : k ≤ y.2.2 - w
    · exact ⟨x, y, unitX_hd (by omega), unitX_hd (by omega), by omega⟩
    · obtain ⟨x', y', e1, e2, e3⟩ := ih (k - (y.2.2 - w)) (by omega) (by omega)
      refine ⟨x', y', ?_, ?_, e3⟩
      · rw [← e1]; congr 1; omega
      · rw [← e2, show w + k = y.2.2 + (0 + (k - (y.2.2 - w))) by omega, unitX_tl (by omega)]
  · intro x y bs ss g w hm hlow heq ih k h1 h2
    rw [runW_e _ _ _ _ hlow heq, sumT_cons] at h2
    simp only at h2
    by_cases hk : k ≤ x.2.2 - g
    · exact ⟨x, y, unitX_hd (by omega), unitX_hd (by omega), by omega⟩
    · obtain ⟨x', y', e1, e2, e3⟩ := ih (k - (x.2.2 - g)) (by omega) (by omega)
      refine ⟨x', y', ?_, ?_, e3⟩
      · rw [← e1, show g + k = x.2.2 + (0 + (k - (x.2.2 - g))) by omega, unitX_tl (by omega)]
      · rw [← e2, show w + k = y.2.2 + (0 + (k - (x.2.2 - g))) by omega, unitX_tl (by omega)]
theorem UpT.le {x : Tri} {ss : List Tri} (h : UpT (x :: ss)) : ∀ y ∈ x :: ss, x.2.1 ≤ y.2.1 := fun y hy => by
  rcases List.mem_cons.1 hy with rfl | hy
  · omega
  · exact (List.pairwise_cons.1 h).1 y hy
theorem UpT.tail {x : Tri} {ss : List Tri} (h : UpT (x :: ss)) : UpT ss := (List.pairwise_cons.1 h).2
/-- Behind them none do. -/
theorem run_unit_part {bs ss : List Tri} {g w : Int} (hm : MidW bs ss g w) (hd : DownT bs) (hu : UpT ss) : ∀ k, sumT (runW bs ss g w).1 < k → ∀ x y, unitX bs (g + k) = some x → unitX ss (w + k) = some y → x.2.1 < y.2.1 := by
  refine run_ind (P := fun bs ss g w => DownT bs → UpT ss → ∀ k, sumT (runW bs ss g w).1 < k → ∀ x y, unitX bs (g + k) = some x → unitX ss (w + k) = some y → x.2.1 < y.2.1) ?_ ?_ ?_ ?_ ?_ ?_ (bs.length + ss.length) bs ss g w (Nat.le_refl _) hm hd hu
  · intro ss g w hm _ _ k _ x y h; cases h
  · intro x bs g w hm _ _ k _ x y _ h; cases h
  · intro x y bs ss g w hm hlow hd hu k _ x' y' h1 h2
    have := hd.le x' (unitX_mem h1)
    have := hu.le y' (unitX_mem h2)
    omega
  · intro x y bs ss g w hm hlow hlt ih hd hu k hk x' y' h1 h2
    have h0 := run_sum (hm.b hlt)
    rw [runW_b _ _ _ _ hlow hlt, sumT_cons] at hk
    simp only at hk
    refine ih hd.tail hu (k - (x.2.2 - g)) (by omega) x' y' ?_ ?_
    · rw [← h1, show g + k = x.2.2 + (0 + (k - (x.2.2 - g))) by omega, unitX_tl (by omega)]
    · rw [← h2]; congr 1; omega
  · intro x y bs ss g w hm hlow hgt ih hd hu k hk x' y' h1 h2
    have h0 := run_sum (hm.s hgt)
    rw [runW_s _ _ _ _ hlow hgt, sumT_cons] at hk
    simp only at hk
    refine ih hd hu.tail (k - (y.2.2 - w)) (by omega) x' y' ?_ ?_
    · rw [← h1]; congr 1; omega
    · rw [← h2, show w + k = y.2.2 + (0 + (k - (y.2.2 - w))) by omega, unitX_tl (by omega)]
  · intro x y bs ss g w hm hlow heq ih hd hu k hk x' y' h1 h2
    have h0 := run_sum hm.e
    rw [runW_e _ _ _ _ hlow heq, sumT_cons] at hk
    simp only at hk
    refine ih hd.tail hu.tail (k - (x.2.2 - g)) (by omega) x' y' ?_ ?_
    · rw [← h1, show g + k = x.2.2 + (0 + (k - (x.2.2 - g))) by omega, unitX_tl (by omega)]
    · rw [← h2, show w + k = y.2.2 + (0 + (k - (x.2.2 - g))) by omega, unitX_tl (by omega)]
theorem sum_pos_of {bs ss : List Tri} {g w : Int} (hm : MidW bs ss g w) (h : (runW bs ss g w).1 ≠ []) : 0 < sumT (runW bs ss g w).1 := sumT_pos _ (fun t ht => (run_from hm t ht).2.2.1) h
/-- The last trade is of the last units. -/
theorem run_unit_last {bs ss : List Tri} {g w : Int} (hm : MidW bs ss g w) : (runW bs ss g w).1 ≠ [] → ∃ x y t, unitX bs (g + sumT (runW bs ss g w).1) = some x ∧ unitX ss (w + sumT (runW bs ss g w).1) = some y ∧ (runW bs ss g w).1.getLast? = some t ∧ t.1 = unitT x ∧ t.2.1 = unitT y := by
  have lastc : ∀ (t : Trd) (ts : List Trd), ts ≠ [] → (t :: ts).getLast? = ts.getLast? := fun t ts h => by
    cases ts with
    | nil => exact absurd rfl h
    | cons u us => simp
  refine run_ind (P := fun bs ss g w => (runW bs ss g w).1 ≠ [] → ∃ x y t, unitX bs (g + sumT (runW bs ss g w).1) = some x ∧ unitX ss (w + sumT (runW bs ss g w).1) = some y ∧ (runW bs ss g w).1.getLast? = some t ∧ t.1 = unitT x ∧ t.2.1 = unitT y) ?_ ?_ ?_ ?_ ?_ ?_ (bs.length + ss.length) bs ss g w (Nat.le_refl _) hm
  · intro ss g w hm h; rw [runW_nil'] at h; exact absurd rfl h
  · intro x bs g w hm h; rw [runW_nil] at h; exact absurd rfl h
  · intro x y bs ss g w hm hlow h; rw [runW_low _ _ _ _ hlow] at h; exact absurd rfl h
  · intro x y bs ss g w hm hlow hlt ih _
    have hp := sum_pos_of (hm.b hlt)
    rw [runW_b _ _ _ _ hlow hlt, sumT_cons]
    generalize runW bs (y :: ss) 0 (w + (x.2.2 - g)) = R at *
    simp only
    by_cases hn : R.1 = []
    · rw [hn]
      exact ⟨x, y, _, unitX_hd (by simp [sumT]; omega), unitX_hd (by simp [sumT]; omega), rfl, rfl, rfl⟩
    · obtain ⟨x', y', t, e1, e2, e3, e4, e5⟩ := ih hn
      have := hp hn
      refine ⟨x', y', t, ?_, ?_, by rw [lastc _ _ hn]; exact e3, e4, e5⟩
      · rw [← e1, show g + (x.2.2 - g + sumT R.1) = x.2.2 + (0 + sumT R.1) by omega, unitX_tl (by omega)]
      · rw [← e2]; congr 1; omega
  · intro x y bs ss g w hm hlow hgt ih _
    have hp := sum_pos_of (hm.s hgt)
    rw [runW_s _ _ _ _ hlow hgt, sumT_cons]
    generalize runW (x :: bs) ss (g + (y.2.2 - w)) 0 = R at *
    simp only
    by_cases hn : R.1 = []
    · rw [hn]
      exact ⟨x, y, _, unitX_hd (by simp [sumT]; omega), unitX_hd (by simp [sumT]; omega), rfl, rfl, rfl⟩
    · obtain ⟨x', y', t, e1, e2, e3, e4, e5⟩ := ih hn
      have := hp hn
      refine ⟨x', y', t, ?_, ?_, by rw [lastc _ _ hn]; exact e3, e4, e5⟩
      · rw [← e1]; congr 1; omega
      · rw [← e2, show w + (y.2.2 - w + sumT R.1) = y.2.2 + (0 + sumT R.1) by omega, unitX_tl (by omega)]
  · intro x y bs ss g w hm hlow heq ih _
    have hp := sum_pos_of hm.e
    rw [runW_e _ _ _ _ hlow heq, sumT_cons]
    generalize runW bs ss 0 0 = R at *
    simp only
    by_cases hn : R.1 = []
    · rw [hn]
      exact ⟨x, y, _, unitX_hd (by simp [sumT]; omega), unitX_hd (by simp [sumT]; omega), rfl, rfl, rfl⟩
    · obtain ⟨x', y', t, e1, e2, e3, e4, e5⟩ := ih hn
      have := hp hn
      refine ⟨x', y', t, ?_, ?_, by rw [lastc _ _ hn]; exact e3, e4, e5⟩
      · rw [← e1, show g + (x.2.2 - g + sumT R.1) = x.2.2 + (0 + sumT R.1) by omega, unitX_tl (by omega)]
      · rw [← e2, show w + (x.2.2 - g + sumT R.1) = y.2.2 + (0 + sumT R.1) by omega, unitX_tl (by omega)]
end Go.Proofs.Ytogicdljbnllgaa
