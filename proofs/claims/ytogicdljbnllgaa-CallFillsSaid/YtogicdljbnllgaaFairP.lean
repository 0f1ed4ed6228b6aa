/- How a run of trades shares the units out: plain. -/
import Derived.Test.YtogicdljbnllgaaGave
namespace Go.Proofs.Ytogicdljbnllgaa
open Go.Shelf Go.RowKit Go.Lib Go.Sort Go.Proofs

/-- Who gets how many of K units, and how many it could. -/
def sharesG : List Tri → Int → Int → List (Tri × Int × Int)
  | [], _, _ => []
  | x :: bs, g, K => (x, min K (x.2.2 - g), x.2.2 - g) :: sharesG bs 0 (K - min K (x.2.2 - g))
/-- How many units trades give to one. -/
def giv : List Trd → Int → Int
  | [], _ => 0
  | t :: ts, who => (if t.1.1 = who then t.2.2 else 0) + giv ts who
def got : List (Tri × Int × Int) → Int → Int
  | [], _ => 0
  | e :: l, who => (if e.1.1 = who then e.2.1 else 0) + got l who
def Roomy (bs : List Tri) (g : Int) : Prop := CountT bs ∧ 0 ≤ g ∧ ∀ x, bs.head? = some x → g < x.2.2
theorem MidW.rb {bs ss : List Tri} {g w : Int} (h : MidW bs ss g w) : Roomy bs g := ⟨h.cb, h.g0, h.hg⟩
theorem Roomy.tail {x : Tri} {bs : List Tri} {g : Int} (h : Roomy (x :: bs) g) : Roomy bs 0 := ⟨h.1.tail, by omega, head_pos h.1.tail⟩
theorem shares_zero : ∀ (bs : List Tri) (g : Int), Roomy bs g → ∀ e ∈ sharesG bs g 0, e.2.1 = 0 ∧ 0 < e.2.2
  | [], _, _, _, he => by cases he
  | x :: bs, g, h, e, he => by
    have h1 := h.2.2 x rfl
    have hm : min 0 (x.2.2 - g) = 0 := by omega
    simp only [sharesG, hm, Int.sub_zero] at he
    rcases List.mem_cons.1 he with rfl | he
    · exact ⟨rfl, by simp only; omega⟩
    · exact shares_zero bs 0 h.tail e he
theorem got_zero : ∀ (l : List (Tri × Int × Int)), (∀ e ∈ l, e.2.1 = 0) → ∀ who, got l who = 0
  | [], _, _ => rfl
  | e :: l, h, who => by
    have h1 := h e List.mem_cons_self
    have h2 := got_zero l (fun u hu => h u (List.mem_cons_of_mem _ hu)) who
    simp only [got, h1, h2]
    split <;> rfl
theorem shares_ok : ∀ (bs : List Tri) (g K : Int), Roomy bs g → 0 ≤ K → ∀ e ∈ sharesG bs g K, 0 ≤ e.2.1 ∧ e.2.1 ≤ e.2.2 ∧ e.1 ∈ bs
  | [], _, _, _, _, _, he => by cases he
  | x :: bs, g, K, h, hK, e, he => by
    have h1 := h.2.2 x rfl
    simp only [sharesG] at he
    rcases List.mem_cons.1 he with rfl | he
    · exact ⟨by simp only; omega, by simp only; omega, List.mem_cons_self⟩
    · obtain ⟨a, b, c⟩ := shares_ok bs 0 (K - min K (x.2.2 - g)) h.tail (by omega) e he
      exact ⟨a, b, List.mem_cons_of_mem _ c⟩
theorem run_sum {bs ss : List Tri} {g w : Int} (hm : MidW bs ss g w) : 0 ≤ sumT (runW bs ss g w).1 :=
  (sumT_bound _ (fun t ht => by have := run_from hm t ht; exact ⟨by have := this.2.2.1; omega, this.2.2.2.1⟩)).1
theorem sumT_cons (t : Trd) (ts : List Trd) : sumT (t :: ts) = t.2.2 + sumT ts := by simp [sumT]
theorem shares_more {x : Tri} {bs : List Tri} {g n K : Int} (hn : n = x.2.2 - g) (hK : 0 ≤ K) : sharesG (x :: bs) g (n + K) = (x, n, n) :: sharesG bs 0 K := by
  rw [sharesG, ← hn, show min (n + K) n = n by omega, show n + K - n = K by omega]
theorem shares_part {x : Tri} {bs : List Tri} {g n K : Int} (hK : 0 ≤ K) (hn : n < x.2.2 - g) : sharesG (x :: bs) g (n + K) = (x, n + min K (x.2.2 - (g + n)), x.2.2 - g) :: sharesG bs 0 (K - min K (x.2.2 - (g + n))) := by
  have h1 : min (n + K) (x.2.2 - g) = n + min K (x.2.2 - (g + n)) := by omega
  simp only [sharesG, h1]
  rw [show n + K - (n + min K (x.2.2 - (g + n))) = K - min K (x.2.2 - (g + n)) by omega]

/-- What the trades give to each is its share. -/
theorem run_got {bs ss : List Tri} {g w : Int} (hm : MidW bs ss g w) : ∀ who, giv (runW bs ss g w).1 who = got (sharesG bs g (sumT (runW bs ss g w).1)) who := by
  refine run_ind (P := fun bs ss g w => ∀ who, giv (runW bs ss g w).1 who = got (sharesG bs g (sumT (runW bs ss g w).1)) who) ?_ ?_ ?_ ?_ ?_ ?_ (bs.length + ss.length) bs ss g w (Nat.le_refl _) hm
  · intro ss g w _ who; rw [runW_nil']; rfl
  · intro x bs g w hm who
    rw [runW_nil]
    exact (got_zero _ (fun e he => (shares_zero _ _ hm.rb e he).1) who).symm
  · intro x y bs ss g w hm hlow who
    rw [runW_low _ _ _ _ hlow]
    exact (got_zero _ (fun e he => (shares_zero _ _ hm.rb e he).1) who).symm
  · intro x y bs ss g w hm hlow hlt ih who
    rw [runW_b _ _ _ _ hlow hlt, sumT_cons, shares_more rfl (run_sum (hm.b hlt))]
    simp only [giv, got, unitT, ih who]
    rfl
  · intro x y bs ss g w hm hlow hgt ih who
    rw [runW_s _ _ _ _ hlow hgt, sumT_cons, shares_part (run_sum (hm.s hgt)) hgt]
    have := ih who
    simp only [sharesG, got] at this
    simp only [giv, got, unitT, this]
    split <;> omega
  · intro x y bs ss g w hm hlow heq ih who
    rw [runW_e _ _ _ _ hlow heq, sumT_cons, shares_more rfl (run_sum hm.e)]
    simp only [giv, got, unitT, ih who]
    rfl

def DownT (bs : List Tri) : Prop := bs.Pairwise fun x y => y.2.1 ≤ x.2.1
def UpT (ss : List Tri) : Prop := ss.Pairwise fun x y => x.2.1 ≤ y.2.1
theorem DownT.tail {x : Tri} {bs : List Tri} (h : DownT (x :: bs)) : DownT bs := (List.pairwise_cons.1 h).2
theorem DownT.le {x : Tri} {bs : List Tri} (h : DownT (x :: bs)) : ∀ y ∈ x :: bs, y.2.1 ≤ x.2.1 := fun y hy => by
  rcases List.mem_cons.1 hy with rfl | hy
  · omega
  · exact (List.pairwise_cons.1 h).1 y hy
theorem high_cons (t : Trd) (ts : List Trd) : highT (t :: ts) = if ts = [] then t.1.2 else highT ts := by
  cases ts with
  | nil => rfl
  | cons u us => simp [highT]
theorem high_from {bs ss : List Tri} {ts : List Trd} (h : ∀ t ∈ ts, FromT bs ss t) (hne : ts ≠ []) : ∃ x ∈ bs, highT ts = x.2.1 := by
  obtain ⟨t, ht⟩ : ∃ t, ts.getLast? = some t := by
    cases hl : ts.getLast? with
    | none => exact absurd (List.getLast?_eq_none_iff.1 hl) hne
    | some t => exact ⟨t, rfl⟩
  obtain ⟨⟨x, hx, e⟩, _⟩ := h t (List.mem_of_getLast? ht)
  refine ⟨x, hx, ?_⟩
  unfold highT
  rw [ht]
  show t.1.2 = x.2.1
  rw [e]
  rfl
theorem run_next_mem {bs ss : List Tri} {g w : Int} (hm : MidW bs ss g w) : ∀ u, (runW bs ss g w).2.1 = some u → ∃ x ∈ bs, u = unitT x := by
  refine run_ind (P := fun bs ss g w => ∀ u, (runW bs ss g w).2.1 = some u → ∃ x ∈ bs, u = unitT x) ?_ ?_ ?_ ?_ ?_ ?_ (bs.length + ss.length) bs ss g w (Nat.le_refl _) hm
  · intro ss g w _ u hu; rw [runW_nil'] at hu; cases hu
  · intro x bs g w _ u hu; rw [runW_nil] at hu; exact ⟨x, List.mem_cons_self, by simpa using hu.symm⟩
  · intro x y bs ss g w _ hlow u hu; rw [runW_low _ _ _ _ hlow] at hu; exact ⟨x, List.mem_cons_self, by simpa using hu.symm⟩
  · intro x y bs ss g w hm hlow hlt ih u hu
    rw [runW_b _ _ _ _ hlow hlt] at hu
    obtain ⟨z, hz, e⟩ := ih u hu
    exact ⟨z, List.mem_cons_of_mem _ hz, e⟩
  · intro x y bs ss g w hm hlow hgt ih u hu
    rw [runW_s _ _ _ _ hlow hgt] at hu
    exact ih u hu
  · intro x y bs ss g w hm hlow heq ih u hu
    rw [runW_e _ _ _ _ hlow heq] at hu
    obtain ⟨z, hz, e⟩ := ih u hu
    exact ⟨z, List.mem_cons_of_mem _ hz, e⟩
theorem run_none {bs ss : List Tri} {g w : Int} (hm : MidW bs ss g w) (h : (runW bs ss g w).1 = []) : ∀ e ∈ sharesG bs g (sumT (runW bs ss g w).1), e.2.1 = 0 := by
  rw [h]
  exact fun e he => (shares_zero _ _ hm.rb e he).1
/-- Who gets units has at least what the last buyer has. -/
theorem run_high {bs ss : List Tri} {g w : Int} (hm : MidW bs ss g w) (hd : DownT bs) : ∀ e ∈ sharesG bs g (sumT (runW bs ss g w).1), 0 < e.2.1 → highT (runW bs ss g w).1 ≤ e.1.2.1 := by
  refine run_ind (P := fun bs ss g w => DownT bs → ∀ e ∈ sharesG bs g (sumT (runW bs ss g w).1), 0 < e.2.1 → highT (runW bs ss g w).1 ≤ e.1.2.1) ?_ ?_ ?_ ?_ ?_ ?_ (bs.length + ss.length) bs ss g w (Nat.le_refl _) hm hd
  · intro ss g w _ _ e he; rw [runW_nil'] at he; cases he
  · intro x bs g w hm _ e he h0
    have := run_none hm (by rw [runW_nil]) e he
    omega
  · intro x y bs ss g w hm hlow _ e he h0
    have := run_none hm (by rw [runW_low _ _ _ _ hlow]) e he
    omega
  · intro x y bs ss g w hm hlow hlt ih hd e he h0
    have hf := run_from hm
    rw [runW_b _ _ _ _ hlow hlt] at he hf ⊢
    obtain ⟨z, hz, hh⟩ := high_from hf (by simp)
    rw [sumT_cons, shares_more rfl (run_sum (hm.b hlt))] at he
    rcases List.mem_cons.1 he with rfl | he
    · rw [hh]; exact hd.le z hz
    · simp only
      rw [high_cons]
      split
      · rename_i hn
        have := run_none (hm.b hlt) hn e he
        omega
      · exact ih hd.tail e he h0
  · intro x y bs ss g w hm hlow hgt ih hd e he h0
    have hf := run_from hm
    rw [runW_s _ _ _ _ hlow hgt] at he hf ⊢
    obtain ⟨z, hz, hh⟩ := high_from hf (by simp)
    rw [sumT_cons, shares_part (run_sum (hm.s hgt)) hgt] at he
    rcases List.mem_cons.1 he with rfl | he
    · rw [hh]; exact hd.le z hz
    · have he' : e ∈ sharesG (x :: bs) (g + (y.2.2 - w)) (sumT (runW (x :: bs) ss (g + (y.2.2 - w)) 0).1) := List.mem_cons_of_mem _ he
      simp only
      rw [high_cons]
      split
      · rename_i hn
        have := run_none (hm.s hgt) hn e he'
        omega
      · exact ih hd e he' h0
  · intro x y bs ss g w hm hlow heq ih hd e he h0
    have hf := run_from hm
    rw [runW_e _ _ _ _ hlow heq] at he hf ⊢
    obtain ⟨z, hz, hh⟩ := high_from hf (by simp)
    rw [sumT_cons, shares_more rfl (run_sum hm.e)] at he
    rcases List.mem_cons.1 he with rfl | he
    · rw [hh]; exact hd.le z hz
    · simp only
      rw [high_cons]
      split
      · rename_i hn
        have := run_none hm.e hn e he
        omega
      · exact ih hd.tail e he h0
/-- Who does not get all has at most what stands next. -/
theorem run_low {bs ss : List Tri} {g w : Int} (hm : MidW bs ss g w) (hd : DownT bs) : ∀ e ∈ sharesG bs g (sumT (runW bs ss g w).1), e.2.1 < e.2.2 → ∃ u, (runW bs ss g w).2.1 = some u ∧ e.1.2.1 ≤ u.2 := by
  refine run_ind (P := fun bs ss g w => DownT bs → ∀ e ∈ sharesG bs g (sumT (runW bs ss g w).1), e.2.1 < e.2.2 → ∃ u, (runW bs ss g w).2.1 = some u ∧ e.1.2.1 ≤ u.2) ?_ ?_ ?_ ?_ ?_ ?_ (bs.length + ss.length) bs ss g w (Nat.le_refl _) hm hd
  · intro ss g w _ _ e he; rw [runW_nil'] at he; cases he
  · intro x bs g w hm hd e he h0
    rw [runW_nil] at he ⊢
    exact ⟨unitT x, rfl, hd.le _ (shares_ok _ _ _ hm.rb (by simp [sumT]) e he).2.2⟩
  · intro x y bs ss g w hm hlow hd e he h0
    rw [runW_low _ _ _ _ hlow] at he ⊢
    exact ⟨unitT x, rfl, hd.le _ (shares_ok _ _ _ hm.rb (by simp [sumT]) e he).2.2⟩
  · intro x y bs ss g w hm hlow hlt ih hd e he h0
    rw [runW_b _ _ _ _ hlow hlt] at he ⊢
    rw [sumT_cons, shares_more rfl (run_sum (hm.b hlt))] at he
    rcases List.mem_cons.1 he with rfl | he
    · simp only at h0; omega
    · exact ih hd.tail e he h0
  · intro x y bs ss g w hm hlow hgt ih hd e he h0
    rw [runW_s _ _ _ _ hlow hgt] at he ⊢
    rw [sumT_cons, shares_part (run_sum (hm.s hgt)) hgt] at he
    rcases List.mem_cons.1 he with rfl | he
    · exact ih hd (x, min (sumT (runW (x :: bs) ss (g + (y.2.2 - w)) 0).1) (x.2.2 - (g + (y.2.2 - w))), x.2.2 - (g + (y.2.2 - w))) List.mem_cons_self (by simp only at h0 ⊢; omega)
    · exact ih hd e (List.mem_cons_of_mem _ he) h0
  · intro x y bs ss g w hm hlow heq ih hd e he h0
    rw [runW_e _ _ _ _ hlow heq] at he ⊢
    rw [sumT_cons, shares_more rfl (run_sum hm.e)] at he
    rcases List.mem_cons.1 he with rfl | he
    · simp only at h0; omega
    · exact ih hd.tail e he h0
/-- What stands next on either side does not meet. -/
theorem run_gap {bs ss : List Tri} {g w : Int} (hm : MidW bs ss g w) : ∀ u v, (runW bs ss g w).2.1 = some u → (runW bs ss g w).2.2 = some v → u.2 < v.2 := by
  refine run_ind (P := fun bs ss g w => ∀ u v, (runW bs ss g w).2.1 = some u → (runW bs ss g w).2.2 = some v → u.2 < v.2) ?_ ?_ ?_ ?_ ?_ ?_ (bs.length + ss.length) bs ss g w (Nat.le_refl _) hm
  · intro ss g w _ u v hu; rw [runW_nil'] at hu; cases hu
  · intro x bs g w _ u v _ hv; rw [runW_nil] at hv; cases hv
  · intro x y bs ss g w _ hlow u v hu hv
    rw [runW_low _ _ _ _ hlow] at hu hv
    cases hu
    cases hv
    exact hlow
  · intro x y bs ss g w hm hlow hlt ih; rw [runW_b _ _ _ _ hlow hlt]; exact ih
  · intro x y bs ss g w hm hlow hgt ih; rw [runW_s _ _ _ _ hlow hgt]; exact ih
  · intro x y bs ss g w hm hlow heq ih; rw [runW_e _ _ _ _ hlow heq]; exact ih
/-- What stands next has at most what the last buyer has. -/
theorem run_after {bs ss : List Tri} {g w : Int} (hm : MidW bs ss g w) (hd : DownT bs) : (runW bs ss g w).1 ≠ [] → ∀ u, (runW bs ss g w).2.1 = some u → u.2 ≤ highT (runW bs ss g w).1 := by
  refine run_ind (P := fun bs ss g w => DownT bs → (runW bs ss g w).1 ≠ [] → ∀ u, (runW bs ss g w).2.1 = some u → u.2 ≤ highT (runW bs ss g w).1) ?_ ?_ ?_ ?_ ?_ ?_ (bs.length + ss.length) bs ss g w (Nat.le_refl _) hm hd
  · intro ss g w _ _ h; rw [runW_nil'] at h; exact absurd rfl h
  · intro x bs g w _ _ h; rw [runW_nil] at h; exact absurd rfl h
  · intro x y bs ss g w _ hlow _ h; rw [runW_low _ _ _ _ hlow] at h; exact absurd rfl h
  · intro x y bs ss g w hm hlow hlt ih hd h u hu
    rw [runW_b _ _ _ _ hlow hlt] at hu ⊢
    simp only
    rw [high_cons]
    split
    · obtain ⟨z, hz, rfl⟩ := run_next_mem (hm.b hlt) u hu
      exact hd.le z (List.mem_cons_of_mem _ hz)
    · rename_i hn
      exact ih hd.tail hn u hu
  · intro x y bs ss g w hm hlow hgt ih hd h u hu
    rw [runW_s _ _ _ _ hlow hgt] at hu ⊢
    simp only
    rw [high_cons]
    split
    · obtain ⟨z, hz, rfl⟩ := run_next_mem (hm.s hgt) u hu
      exact hd.le z hz
    · rename_i hn
      exact ih hd hn u hu
  · intro x y bs ss g w hm hlow heq ih hd h u hu
    rw [runW_e _ _ _ _ hlow heq] at hu ⊢
    simp only
    rw [high_cons]
    split
    · obtain ⟨z, hz, rfl⟩ := run_next_mem hm.e u hu
      exact hd.le z (List.mem_cons_of_mem _ hz)
    · rename_i hn
      exact ih hd.tail hn u hu
/-- The sides change places. -/
def negT (x : Tri) : Tri := (x.1, -x.2.1, x.2.2)
def negU (u : Int × Int) : Int × Int := (u.1, -u.2)
def swp (t : Trd) : Trd := (negU t.2.1, negU t.1, t.2.2)
theorem neg_head (l : List Tri) : (l.map negT).head?.map unitT = (l.head?.map unitT).map negU := by cases l <;> rfl
theorem MidW.swap {bs ss : List Tri} {g w : Int} (h : MidW bs ss g w) : MidW (ss.map negT) (bs.map negT) w g := by
  refine ⟨fun x hx => ?_, fun x hx => ?_, h.w0, h.g0, fun x hx => ?_, fun x hx => ?_⟩
  · obtain ⟨y, hy, rfl⟩ := List.mem_map.1 hx; exact h.cs y hy
  · obtain ⟨y, hy, rfl⟩ := List.mem_map.1 hx; exact h.cb y hy
  · rw [List.head?_map] at hx
    obtain ⟨y, hy, rfl⟩ := Option.map_eq_some_iff.1 hx
    exact h.hw y hy
  · rw [List.head?_map] at hx
    obtain ⟨y, hy, rfl⟩ := Option.map_eq_some_iff.1 hx
    exact h.hg y hy
theorem run_swap {bs ss : List Tri} {g w : Int} (hm : MidW bs ss g w) : runW (ss.map negT) (bs.map negT) w g = ((runW bs ss g w).1.map swp, (runW bs ss g w).2.2.map negU, (runW bs ss g w).2.1.map negU) := by
  refine run_ind (P := fun bs ss g w => runW (ss.map negT) (bs.map negT) w g = ((runW bs ss g w).1.map swp, (runW bs ss g w).2.2.map negU, (runW bs ss g w).2.1.map negU)) ?_ ?_ ?_ ?_ ?_ ?_ (bs.length + ss.length) bs ss g w (Nat.le_refl _) hm
  · intro ss g w _; rw [runW_nil', List.map_nil, runW_nil, neg_head]; rfl
  · intro x bs g w _; rw [runW_nil, List.map_nil, runW_nil', neg_head]; rfl
  · intro x y bs ss g w _ hlow
    rw [runW_low _ _ _ _ hlow, List.map_cons, List.map_cons, runW_low _ _ _ _ (by simp only [negT]; omega)]
    rfl
  · intro x y bs ss g w hm hlow hlt ih
    rw [List.map_cons] at ih
    rw [runW_b _ _ _ _ hlow hlt, List.map_cons, List.map_cons, runW_s _ _ _ _ (by simp only [negT]; omega) (by simp only [negT]; omega)]
    have e : w + ((negT x).2.2 - g) = w + (x.2.2 - g) := rfl
    rw [e, ih]
    rfl
  · intro x y bs ss g w hm hlow hgt ih
    rw [List.map_cons] at ih
    rw [runW_s _ _ _ _ hlow hgt, List.map_cons, List.map_cons, runW_b _ _ _ _ (by simp only [negT]; omega) (by simp only [negT]; omega)]
    have e : g + ((negT y).2.2 - w) = g + (y.2.2 - w) := rfl
    rw [e, ih]
    rfl
  · intro x y bs ss g w hm hlow heq ih
    rw [runW_e _ _ _ _ hlow heq, List.map_cons, List.map_cons, runW_e _ _ _ _ (by simp only [negT]; omega) (by simp only [negT]; omega), ih]
    simp only [List.map_cons, swp, negT, unitT, negU, Prod.mk.injEq, List.cons.injEq, and_true, true_and]
    omega
theorem high_swap (ts : List Trd) : ts ≠ [] → highT (ts.map swp) = -lowT ts := by
  intro hne
  unfold highT lowT
  rw [List.getLast?_map]
  cases h : ts.getLast? with
  | none => exact absurd (List.getLast?_eq_none_iff.1 h) hne
  | some t => rfl
theorem sum_swap (ts : List Trd) : sumT (ts.map swp) = sumT ts := by
  unfold sumT
  rw [List.map_map]
  rfl
end Go.Proofs.Ytogicdljbnllgaa
