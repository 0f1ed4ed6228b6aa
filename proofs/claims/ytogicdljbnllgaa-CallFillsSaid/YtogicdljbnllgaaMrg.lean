/- The trades of a run, put together unit by unit: plain. -/
import Derived.Test.YtogicdljbnllgaaUnitP
import Derived.Test.YtogicdljbnllgaaFairQ
namespace Go.Proofs.Ytogicdljbnllgaa
open Go.Shelf Go.RowKit Go.Lib Go.Sort Go.Proofs

/-- Who meets whom in a trade. -/
def prT (t : Trd) : Int × Int := (t.1.1, t.2.1.1)
/-- Whose units the k-th one of a run are. -/
def pairAt : List Trd → Int → Int × Int
  | [], _ => (-1, -1)
  | t :: ts, k => if k ≤ t.2.2 then prT t else pairAt ts (k - t.2.2)
theorem pairAt_hd {t : Trd} {ts : List Trd} {k : Int} (h : k ≤ t.2.2) : pairAt (t :: ts) k = prT t := by simp only [pairAt, if_pos h]
theorem pairAt_tl {t : Trd} {ts : List Trd} {k : Int} (h : t.2.2 < k) : pairAt (t :: ts) k = pairAt ts (k - t.2.2) := by simp only [pairAt]; rw [if_neg (by omega)]
theorem run_unit_pair {bs ss : List Tri} {g w : Int} (hm : MidW bs ss g w) : ∀ k, 1 ≤ k → k ≤ sumT (runW bs ss g w).1 → ∃ x y, unitX bs (g + k) = some x ∧ unitX ss (w + k) = some y ∧ pairAt (runW bs ss g w).1 k = (x.1, y.1) := by
  refine run_ind (P := fun bs ss g w => ∀ k, 1 ≤ k → k ≤ sumT (runW bs ss g w).1 → ∃ x y, unitX bs (g + k) = some x ∧ unitX ss (w + k) = some y ∧ pairAt (runW bs ss g w).1 k = (x.1, y.1)) ?_ ?_ ?_ ?_ ?_ ?_ (bs.length + ss.length) bs ss g w (Nat.le_refl _) hm
  · intro ss g w hm k h1 h2; rw [runW_nil'] at h2; simp [sumT] at h2; omega
  · intro x bs g w hm k h1 h2; rw [runW_nil] at h2; simp [sumT] at h2; omega
  · intro x y bs ss g w hm hlow k h1 h2; rw [runW_low _ _ _ _ hlow] at h2; simp [sumT] at h2; omega
  · intro x y bs ss g w hm hlow hlt ih k h1 h2
    rw [runW_b _ _ _ _ hlow hlt, sumT_cons] at h2
    rw [runW_b _ _ _ _ hlow hlt]
    simp only at h2 ⊢
    by_cases hk : k ≤ x.2.2 - g
    · exact ⟨x, y, unitX_hd (by omega), unitX_hd (by omega), pairAt_hd hk⟩
    · obtain ⟨x', y', e1, e2, e3⟩ := ih (k - (x.2.2 - g)) (by omega) (by omega)
      refine ⟨x', y', ?_, ?_, (pairAt_tl (show x.2.2 - g < k by omega)).trans e3⟩
      · rw [← e1, show g + k = x.2.2 + (0 + (k - (x.2.2 - g))) by omega, unitX_tl (by omega)]
      · rw [← e2]; congr 1; omega
  · intro x y bs ss g w hm hlow hgt ih k h1 h2
    rw [runW_s _ _ _ _ hlow hgt, sumT_cons] at h2
    rw [runW_s _ _ _ _ hlow hgt]
    simp only at h2 ⊢
    by_cases hk : k ≤ y.2.2 - w
    · exact ⟨x, y, unitX_hd (by omega), unitX_hd (by omega), pairAt_hd hk⟩
    · obtain ⟨x', y', e1, e2, e3⟩ := ih (k - (y.2.2 - w)) (by omega) (by omega)
      refine ⟨x', y', ?_, ?_, (pairAt_tl (show y.2.2 - w < k by omega)).trans e3⟩
      · rw [← e1]; congr 1; omega
      · rw [← e2, show w + k = y.2.2 + (0 + (k - (y.2.2 - w))) by omega, unitX_tl (by omega)]
  · intro x y bs ss g w hm hlow heq ih k h1 h2
    rw [runW_e _ _ _ _ hlow heq, sumT_cons] at h2
    rw [runW_e _ _ _ _ hlow heq]
    simp only at h2 ⊢
    by_cases hk : k ≤ x.2.2 - g
    · exact ⟨x, y, unitX_hd (by omega), unitX_hd (by omega), pairAt_hd hk⟩
    · obtain ⟨x', y', e1, e2, e3⟩ := ih (k - (x.2.2 - g)) (by omega) (by omega)
      refine ⟨x', y', ?_, ?_, (pairAt_tl (show x.2.2 - g < k by omega)).trans e3⟩
      · rw [← e1, show g + k = x.2.2 + (0 + (k - (x.2.2 - g))) by omega, unitX_tl (by omega)]
      · rw [← e2, show w + k = y.2.2 + (0 + (k - (x.2.2 - g))) by omega, unitX_tl (by omega)]
/-- No two meet twice. -/
def Apart2 (ts : List Trd) : Prop := ts.Pairwise (fun a b => prT a ≠ prT b)
theorem run_apart {bs ss : List Tri} {g w : Int} (hm : MidW bs ss g w) (hb : (bs.map (·.1)).Nodup) (hs : (ss.map (·.1)).Nodup) : Apart2 (runW bs ss g w).1 := by
  refine run_ind (P := fun bs ss g w => MidW bs ss g w → (bs.map (·.1)).Nodup → (ss.map (·.1)).Nodup → Apart2 (runW bs ss g w).1) ?_ ?_ ?_ ?_ ?_ ?_ (bs.length + ss.length) bs ss g w (Nat.le_refl _) hm hm hb hs
  · intro ss g w hm _ _ _; rw [runW_nil']; exact List.Pairwise.nil
  · intro x bs g w hm _ _ _; rw [runW_nil]; exact List.Pairwise.nil
  · intro x y bs ss g w hm hlow _ _ _; rw [runW_low _ _ _ _ hlow]; exact List.Pairwise.nil
  · intro x y bs ss g w hm hlow hlt ih _ hb hs
    rw [runW_b _ _ _ _ hlow hlt]
    rw [List.map_cons, List.nodup_cons] at hb
    refine List.pairwise_cons.2 ⟨fun t ht e => ?_, ih (hm.b hlt) hb.2 hs⟩
    obtain ⟨⟨z, hz, ez⟩, _⟩ := run_from (hm.b hlt) t ht
    refine hb.1 (List.mem_map.2 ⟨z, hz, ?_⟩)
    have e1 := congrArg Prod.fst e
    simp only [prT, ez, unitT] at e1
    exact e1.symm
  · intro x y bs ss g w hm hlow hgt ih _ hb hs
    rw [runW_s _ _ _ _ hlow hgt]
    rw [List.map_cons, List.nodup_cons] at hs
    refine List.pairwise_cons.2 ⟨fun t ht e => ?_, ih (hm.s hgt) hb hs.2⟩
    obtain ⟨_, ⟨z, hz, ez⟩, _⟩ := run_from (hm.s hgt) t ht
    refine hs.1 (List.mem_map.2 ⟨z, hz, ?_⟩)
    have e1 := congrArg Prod.snd e
    simp only [prT, ez, unitT] at e1
    exact e1.symm
  · intro x y bs ss g w hm hlow heq ih _ hb hs
    rw [runW_e _ _ _ _ hlow heq]
    rw [List.map_cons, List.nodup_cons] at hb hs
    refine List.pairwise_cons.2 ⟨fun t ht e => ?_, ih hm.e hb.2 hs.2⟩
    obtain ⟨⟨z, hz, ez⟩, _⟩ := run_from hm.e t ht
    refine hb.1 (List.mem_map.2 ⟨z, hz, ?_⟩)
    have e1 := congrArg Prod.fst e
    simp only [prT, ez, unitT] at e1
    exact e1.symm
/-- The first i units of the trades. -/
def mrg : List Trd → Int → List Trd
  | [], _ => []
  | t :: ts, i => if i ≤ 0 then [] else if i ≤ t.2.2 then [(t.1, t.2.1, i)] else t :: mrg ts (i - t.2.2)
theorem mrg_zero (ts : List Trd) : mrg ts 0 = [] := by cases ts with | nil => rfl | cons t ts => simp [mrg]
theorem mrg_in {t : Trd} {ts : List Trd} {i : Int} (h0 : 0 < i) (h : i ≤ t.2.2) : mrg (t :: ts) i = [(t.1, t.2.1, i)] := by simp only [mrg]; rw [if_neg (by omega), if_pos h]
theorem mrg_on {t : Trd} {ts : List Trd} {i : Int} (ht : 1 ≤ t.2.2) (h : t.2.2 < i) : mrg (t :: ts) i = t :: mrg ts (i - t.2.2) := by simp only [mrg]; rw [if_neg (by omega), if_neg (by omega)]
theorem mrg_len : ∀ (ts : List Trd) (i : Int), (mrg ts i).length ≤ ts.length
  | [], _ => Nat.le_refl _
  | t :: ts, i => by
    have := mrg_len ts (i - t.2.2)
    simp only [mrg]
    split
    · simp
    · split
      · simp
      · simp only [List.length_cons]; omega
theorem sumT_nn : ∀ {ts : List Trd}, (∀ t ∈ ts, 1 ≤ t.2.2) → 0 ≤ sumT ts
  | [], _ => by simp [sumT]
  | t :: ts, h => by
    have h1 := h t List.mem_cons_self
    have h2 := sumT_nn (ts := ts) (fun x hx => h x (List.mem_cons_of_mem _ hx))
    rw [sumT_cons]
    omega
theorem mrg_all : ∀ {ts : List Trd}, (∀ t ∈ ts, 1 ≤ t.2.2) → mrg ts (sumT ts) = ts
  | [], _ => rfl
  | t :: ts, h => by
    have h1 := h t List.mem_cons_self
    have ht : ∀ x ∈ ts, 1 ≤ x.2.2 := fun x hx => h x (List.mem_cons_of_mem _ hx)
    have h2 := sumT_nn ht
    have h3 := mrg_all ht
    rw [sumT_cons]
    by_cases hz : sumT ts = 0
    · rw [hz, mrg_in (by omega) (by omega)]
      rw [hz, mrg_zero] at h3
      rw [← h3]
      obtain ⟨a, b, c⟩ := t
      simp
    · rw [mrg_on h1 (by omega), show t.2.2 + sumT ts - t.2.2 = sumT ts by omega, h3]
theorem mrg_one {ts : List Trd} (h : ∀ t ∈ ts, 1 ≤ t.2.2) (hs : 1 ≤ sumT ts) : ∃ t ts', ts = t :: ts' ∧ mrg ts 1 = [(t.1, t.2.1, 1)] ∧ pairAt ts 1 = prT t := by
  cases ts with
  | nil => simp [sumT] at hs
  | cons t ts =>
    have h1 := h t List.mem_cons_self
    exact ⟨t, ts, rfl, mrg_in (by omega) h1, pairAt_hd h1⟩
/-- One unit more: the last trade's, or another's. -/
theorem mrg_step : ∀ {ts : List Trd}, (∀ t ∈ ts, 1 ≤ t.2.2) → Apart2 ts → ∀ i, 0 ≤ i → i < sumT ts →
    (mrg ts i = [] ∧ ∃ x : Trd, mrg ts (i + 1) = [x] ∧ prT x = pairAt ts (i + 1) ∧ x.2.2 = 1) ∨
    ∃ pre x, mrg ts i = pre ++ [x] ∧ ((prT x = pairAt ts (i + 1) ∧ mrg ts (i + 1) = pre ++ [(x.1, x.2.1, x.2.2 + 1)]) ∨
      (prT x ≠ pairAt ts (i + 1) ∧ ∃ y : Trd, mrg ts (i + 1) = pre ++ [x, y] ∧ prT y = pairAt ts (i + 1) ∧ y.2.2 = 1))
  | [], _, _, i, h0, h1 => by simp [sumT] at h1; omega
  | t :: ts, h, ha, i, h0, h1 => by
    have ht := h t List.mem_cons_self
    have hts : ∀ x ∈ ts, 1 ≤ x.2.2 := fun x hx => h x (List.mem_cons_of_mem _ hx)
    have ha2 := List.pairwise_cons.1 ha
    rw [sumT_cons] at h1
    by_cases hz : i = 0
    · subst hz
      refine .inl ⟨mrg_zero _, (t.1, t.2.1, 1), mrg_in (by omega) (by omega), ?_, rfl⟩
      rw [pairAt_hd (by omega)]
      rfl
    · by_cases hlt : i < t.2.2
      · refine .inr ⟨[], (t.1, t.2.1, i), mrg_in (by omega) (by omega), .inl ⟨?_, mrg_in (by omega) (by omega)⟩⟩
        rw [pairAt_hd (by omega)]
        rfl
      · by_cases he : i = t.2.2
        · subst he
          obtain ⟨t2, ts2, e, h3, h4⟩ := mrg_one hts (by omega)
          refine .inr ⟨[], (t.1, t.2.1, t.2.2), mrg_in (by omega) (by omega), .inr ⟨?_, (t2.1, t2.2.1, 1), ?_, ?_, rfl⟩⟩
          · rw [pairAt_tl (by omega), show t.2.2 + 1 - t.2.2 = 1 by omega, h4]
            exact ha2.1 t2 (by rw [e]; exact List.mem_cons_self)
          · rw [mrg_on ht (by omega), show t.2.2 + 1 - t.2.2 = 1 by omega, h3]
            rfl
          · rw [pairAt_tl (by omega), show t.2.2 + 1 - t.2.2 = 1 by omega, h4]
            rfl
        · have hp : pairAt (t :: ts) (i + 1) = pairAt ts (i - t.2.2 + 1) := by rw [pairAt_tl (by omega)]; congr 1; omega
          have hm1 : mrg (t :: ts) (i + 1) = t :: mrg ts (i - t.2.2 + 1) := by rw [mrg_on ht (by omega)]; congr 2; omega
          have hm0 : mrg (t :: ts) i = t :: mrg ts (i - t.2.2) := mrg_on ht (by omega)
          rw [hp, hm1, hm0]
          rcases mrg_step hts ha2.2 (i - t.2.2) (by omega) (by omega) with ⟨h5, _⟩ | ⟨pre, x, h5, h6⟩
          · exfalso
            cases ts with
            | nil => simp [sumT] at h1; omega
            | cons t2 ts2 =>
              simp only [mrg] at h5
              rw [if_neg (by omega)] at h5
              split at h5 <;> cases h5
          · rw [h5]
            refine .inr ⟨t :: pre, x, rfl, ?_⟩
            rcases h6 with ⟨h7, h8⟩ | ⟨h7, y, h8, h9⟩
            · exact .inl ⟨h7, by rw [h8]; rfl⟩
            · exact .inr ⟨h7, y, by rw [h8]; rfl, h9⟩
end Go.Proofs.Ytogicdljbnllgaa
