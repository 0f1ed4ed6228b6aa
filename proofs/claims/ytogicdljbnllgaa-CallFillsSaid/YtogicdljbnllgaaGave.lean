/- What trades come to: plain. -/
import Derived.Test.YtogicdljbnllgaaClr1
namespace Go.Proofs.Ytogicdljbnllgaa
open Go.Shelf Go.RowKit Go.Lib Go.Sort Go.Proofs

/-- How far two sides in order are gone through. -/
structure MidW (bs ss : List Tri) (g w : Int) : Prop where
  cb : CountT bs
  cs : CountT ss
  g0 : 0 ≤ g
  w0 : 0 ≤ w
  hg : ∀ x, bs.head? = some x → g < x.2.2
  hw : ∀ y, ss.head? = some y → w < y.2.2
theorem CountT.tail {x : Tri} {l : List Tri} (h : CountT (x :: l)) : CountT l := fun y hy => h y (List.mem_cons_of_mem _ hy)
theorem head_pos {l : List Tri} (h : CountT l) : ∀ x, l.head? = some x → (0 : Int) < x.2.2 := fun x hx => by have := h x (List.mem_of_mem_head? hx); omega
theorem MidW.start {bs ss : List Tri} (hb : CountT bs) (hs : CountT ss) : MidW bs ss 0 0 := ⟨hb, hs, by omega, by omega, head_pos hb, head_pos hs⟩
section
variable {x y : Tri} {bs ss : List Tri} {g w : Int}
theorem MidW.b (h : MidW (x :: bs) (y :: ss) g w) (h2 : x.2.2 - g < y.2.2 - w) : MidW bs (y :: ss) 0 (w + (x.2.2 - g)) :=
  ⟨h.cb.tail, h.cs, by omega, by have := h.hg x rfl; have := h.w0; omega, head_pos h.cb.tail, fun z hz => by cases hz; omega⟩
theorem MidW.s (h : MidW (x :: bs) (y :: ss) g w) (h2 : y.2.2 - w < x.2.2 - g) : MidW (x :: bs) ss (g + (y.2.2 - w)) 0 :=
  ⟨h.cb, h.cs.tail, by have := h.hw y rfl; have := h.g0; omega, by omega, fun z hz => by cases hz; omega, head_pos h.cs.tail⟩
theorem MidW.e (h : MidW (x :: bs) (y :: ss) g w) : MidW bs ss 0 0 := MidW.start h.cb.tail h.cs.tail
/-- Induction over the trades. -/
theorem run_ind {P : List Tri → List Tri → Int → Int → Prop}
    (h0 : ∀ ss g w, MidW [] ss g w → P [] ss g w) (h1 : ∀ x bs g w, MidW (x :: bs) [] g w → P (x :: bs) [] g w)
    (h2 : ∀ x y bs ss g w, MidW (x :: bs) (y :: ss) g w → x.2.1 < y.2.1 → P (x :: bs) (y :: ss) g w)
    (h3 : ∀ x y bs ss g w, MidW (x :: bs) (y :: ss) g w → ¬ x.2.1 < y.2.1 → x.2.2 - g < y.2.2 - w → P bs (y :: ss) 0 (w + (x.2.2 - g)) → P (x :: bs) (y :: ss) g w)
    (h4 : ∀ x y bs ss g w, MidW (x :: bs) (y :: ss) g w → ¬ x.2.1 < y.2.1 → y.2.2 - w < x.2.2 - g → P (x :: bs) ss (g + (y.2.2 - w)) 0 → P (x :: bs) (y :: ss) g w)
    (h5 : ∀ x y bs ss g w, MidW (x :: bs) (y :: ss) g w → ¬ x.2.1 < y.2.1 → x.2.2 - g = y.2.2 - w → P bs ss 0 0 → P (x :: bs) (y :: ss) g w) :
    ∀ (N : Nat) (bs ss : List Tri) (g w : Int), bs.length + ss.length ≤ N → MidW bs ss g w → P bs ss g w := by
  intro N
  induction N with
  | zero =>
    intro bs ss g w hl hm
    obtain rfl : bs = [] := List.eq_nil_of_length_eq_zero (by omega)
    exact h0 _ _ _ hm
  | succ N ih =>
    intro bs ss g w hl hm
    cases bs with
    | nil => exact h0 _ _ _ hm
    | cons x bs =>
      cases ss with
      | nil => exact h1 _ _ _ _ hm
      | cons y ss =>
        simp only [List.length_cons] at hl
        by_cases hlow : x.2.1 < y.2.1
        · exact h2 _ _ _ _ _ _ hm hlow
        · rcases Int.lt_trichotomy (x.2.2 - g) (y.2.2 - w) with hlt | heq | hgt
          · exact h3 _ _ _ _ _ _ hm hlow hlt (ih _ _ _ _ (by simp only [List.length_cons]; omega) (hm.b hlt))
          · exact h5 _ _ _ _ _ _ hm hlow heq (ih _ _ _ _ (by omega) hm.e)
          · exact h4 _ _ _ _ _ _ hm hlow hgt (ih _ _ _ _ (by simp only [List.length_cons]; omega) (hm.s hgt))
end
/-- What every trade is. -/
def FromT (bs ss : List Tri) (t : Trd) : Prop := (∃ x ∈ bs, t.1 = unitT x) ∧ (∃ y ∈ ss, t.2.1 = unitT y) ∧ 1 ≤ t.2.2 ∧ t.2.2 ≤ 64 ∧ t.2.1.2 ≤ t.1.2
theorem FromT.mono {bs ss bs' ss' : List Tri} {t : Trd} (h : FromT bs ss t) (hb : ∀ x ∈ bs, x ∈ bs') (hs : ∀ x ∈ ss, x ∈ ss') : FromT bs' ss' t := by
  obtain ⟨⟨x, hx, h1⟩, ⟨y, hy, h2⟩, h3⟩ := h
  exact ⟨⟨x, hb x hx, h1⟩, ⟨y, hs y hy, h2⟩, h3⟩
theorem run_from {bs ss : List Tri} {g w : Int} (hm : MidW bs ss g w) : ∀ t ∈ (runW bs ss g w).1, FromT bs ss t := by
  refine run_ind (P := fun bs ss g w => ∀ t ∈ (runW bs ss g w).1, FromT bs ss t) ?_ ?_ ?_ ?_ ?_ ?_ (bs.length + ss.length) bs ss g w (Nat.le_refl _) hm
  · intro ss g w _ t ht; rw [runW_nil'] at ht; cases ht
  · intro x bs g w _ t ht; rw [runW_nil] at ht; cases ht
  · intro x y bs ss g w _ hlow t ht; rw [runW_low _ _ _ _ hlow] at ht; cases ht
  · intro x y bs ss g w hm hlow hlt ih t ht
    rw [runW_b _ _ _ _ hlow hlt] at ht
    rcases List.mem_cons.1 ht with rfl | ht
    · exact ⟨⟨x, List.mem_cons_self, rfl⟩, ⟨y, List.mem_cons_self, rfl⟩, by have := hm.hg x rfl; simp only; omega, by have := hm.cb x List.mem_cons_self; have := hm.g0; simp only; omega, by simp only [unitT]; omega⟩
    · exact (ih t ht).mono (fun _ h => List.mem_cons_of_mem _ h) (fun _ h => h)
  · intro x y bs ss g w hm hlow hgt ih t ht
    rw [runW_s _ _ _ _ hlow hgt] at ht
    rcases List.mem_cons.1 ht with rfl | ht
    · exact ⟨⟨x, List.mem_cons_self, rfl⟩, ⟨y, List.mem_cons_self, rfl⟩, by have := hm.hw y rfl; simp only; omega, by have := hm.cs y List.mem_cons_self; have := hm.w0; simp only; omega, by simp only [unitT]; omega⟩
    · exact (ih t ht).mono (fun _ h => h) (fun _ h => List.mem_cons_of_mem _ h)
  · intro x y bs ss g w hm hlow heq ih t ht
    rw [runW_e _ _ _ _ hlow heq] at ht
    rcases List.mem_cons.1 ht with rfl | ht
    · exact ⟨⟨x, List.mem_cons_self, rfl⟩, ⟨y, List.mem_cons_self, rfl⟩, by have := hm.hg x rfl; simp only; omega, by have := hm.cb x List.mem_cons_self; have := hm.g0; simp only; omega, by simp only [unitT]; omega⟩
    · exact (ih t ht).mono (fun _ h => List.mem_cons_of_mem _ h) (fun _ h => List.mem_cons_of_mem _ h)
theorem run_len {bs ss : List Tri} {g w : Int} (hm : MidW bs ss g w) : (runW bs ss g w).1.length ≤ bs.length + ss.length := by
  refine run_ind (P := fun bs ss g w => (runW bs ss g w).1.length ≤ bs.length + ss.length) ?_ ?_ ?_ ?_ ?_ ?_ (bs.length + ss.length) bs ss g w (Nat.le_refl _) hm
  · intro ss g w _; rw [runW_nil']; simp
  · intro x bs g w _; rw [runW_nil]; simp
  · intro x y bs ss g w _ hlow; rw [runW_low _ _ _ _ hlow]; simp
  · intro x y bs ss g w hm hlow hlt ih
    rw [runW_b _ _ _ _ hlow hlt]; simp only [List.length_cons] at ih ⊢; omega
  · intro x y bs ss g w hm hlow hgt ih
    rw [runW_s _ _ _ _ hlow hgt]; simp only [List.length_cons] at ih ⊢; omega
  · intro x y bs ss g w hm hlow heq ih
    rw [runW_e _ _ _ _ hlow heq]; simp only [List.length_cons] at ih ⊢; omega

def addAt (l : List Int) (i : Nat) (n : Int) : List Int := l.set i (l.getD i 0 + n)
theorem addAt_len (l : List Int) (i : Nat) (n : Int) : (addAt l i n).length = l.length := List.length_set
def givenB (n : Nat) (ts : List Trd) : List Int := ts.foldl (fun l t => addAt l t.1.1.toNat t.2.2) (List.replicate n 0)
def givenS (n : Nat) (ts : List Trd) : List Int := ts.foldl (fun l t => addAt l t.2.1.1.toNat t.2.2) (List.replicate n 0)
def sumT (ts : List Trd) : Int := (ts.map fun t => t.2.2).sum
def lowT (ts : List Trd) : Int := (ts.getLast?.map fun t => t.2.1.2).getD 0
def highT (ts : List Trd) : Int := (ts.getLast?.map fun t => t.1.2).getD 0
theorem givenB_snoc (n : Nat) (ts : List Trd) (t : Trd) : givenB n (ts ++ [t]) = addAt (givenB n ts) t.1.1.toNat t.2.2 := by simp [givenB]
theorem givenS_snoc (n : Nat) (ts : List Trd) (t : Trd) : givenS n (ts ++ [t]) = addAt (givenS n ts) t.2.1.1.toNat t.2.2 := by simp [givenS]
theorem sumT_snoc (ts : List Trd) (t : Trd) : sumT (ts ++ [t]) = sumT ts + t.2.2 := by simp [sumT]
theorem lowT_snoc (ts : List Trd) (t : Trd) : lowT (ts ++ [t]) = t.2.1.2 := by simp [lowT]
theorem highT_snoc (ts : List Trd) (t : Trd) : highT (ts ++ [t]) = t.1.2 := by simp [highT]
theorem fold_len (f : Trd → Nat) (ts : List Trd) : ∀ l : List Int, (ts.foldl (fun l t => addAt l (f t) t.2.2) l).length = l.length := by
  induction ts with
  | nil => intro l; rfl
  | cons t ts ih => intro l; rw [List.foldl_cons, ih, addAt_len]
theorem givenB_len (n : Nat) (ts : List Trd) : (givenB n ts).length = n := by unfold givenB; rw [fold_len (fun t => t.1.1.toNat), List.length_replicate]
theorem givenS_len (n : Nat) (ts : List Trd) : (givenS n ts).length = n := by unfold givenS; rw [fold_len (fun t => t.2.1.1.toNat), List.length_replicate]
theorem addAt_bound {l : List Int} {i : Nat} {n M : Int} (h : ∀ x ∈ l, 0 ≤ x ∧ x ≤ M) (hM : 0 ≤ M) (hn : 0 ≤ n ∧ n ≤ 64) : ∀ x ∈ addAt l i n, 0 ≤ x ∧ x ≤ M + 64 := by
  intro x hx
  rcases List.mem_or_eq_of_mem_set hx with hx | rfl
  · have := h x hx; omega
  · rw [List.getD_eq_getElem?_getD]
    cases hc : l[i]? with
    | none => simp; omega
    | some z => have := h z (List.mem_of_getElem? hc); simp; omega
theorem fold_bound (f : Trd → Nat) : ∀ (ts : List Trd) (l : List Int) (M : Int), (∀ t ∈ ts, 0 ≤ t.2.2 ∧ t.2.2 ≤ 64) → 0 ≤ M → (∀ x ∈ l, 0 ≤ x ∧ x ≤ M) → ∀ x ∈ ts.foldl (fun l t => addAt l (f t) t.2.2) l, 0 ≤ x ∧ x ≤ M + 64 * ts.length
  | [], l, M, _, _, h => fun x hx => by have := h x hx; simp only [List.length_nil]; omega
  | t :: ts, l, M, ht, hM, h => fun x hx => by
    have := fold_bound f ts (addAt l (f t) t.2.2) (M + 64) (fun u hu => ht u (List.mem_cons_of_mem _ hu)) (by omega) (addAt_bound h hM (ht t List.mem_cons_self)) x hx
    simp only [List.length_cons]
    omega
theorem sumT_bound : ∀ (ts : List Trd), (∀ t ∈ ts, 0 ≤ t.2.2 ∧ t.2.2 ≤ 64) → 0 ≤ sumT ts ∧ sumT ts ≤ 64 * ts.length
  | [], _ => by simp [sumT]
  | t :: ts, h => by
    have h1 := sumT_bound ts (fun u hu => h u (List.mem_cons_of_mem _ hu))
    have h2 := h t List.mem_cons_self
    simp only [sumT, List.map_cons, List.sum_cons, List.length_cons] at h1 ⊢
    omega
theorem sumT_pos : ∀ (ts : List Trd), (∀ t ∈ ts, 1 ≤ t.2.2) → ts ≠ [] → 0 < sumT ts
  | [], _, h => absurd rfl h
  | [t], h, _ => by have := h t List.mem_cons_self; simp [sumT]; omega
  | t :: u :: ts, h, _ => by
    have h1 := sumT_pos (u :: ts) (fun v hv => h v (List.mem_cons_of_mem _ hv)) (by simp)
    have h2 := h t List.mem_cons_self
    simp only [sumT, List.map_cons, List.sum_cons] at h1 ⊢
    omega
/-- What comes of a call: the price, how many units, between which coins, whose. -/
def clrOf (n m : Nat) (R : List Trd × Option (Int × Int) × Option (Int × Int)) : Int × Int × Int × Int × List Int × List Int :=
  if R.1 = [] then (0, 0, 0, 0, givenB n [], givenS m []) else
  let lo := match R.2.1 with | none => lowT R.1 | some u => max (lowT R.1) u.2
  let hi := match R.2.2 with | none => highT R.1 | some u => min (highT R.1) u.2
  (lo + (hi - lo).tdiv 2, sumT R.1, lo, hi, givenB n R.1, givenS m R.1)
/-- Wants that may be. -/
def OkW (l : List (Int × Int)) : Prop := l.length ≤ 4096 ∧ ∀ x ∈ l, 0 ≤ x.1 ∧ x.1 ≤ 1099511627776 ∧ 1 ≤ x.2 ∧ x.2 ≤ 64
theorem ok_of_check {b s : List (Int × Int)} (h : checkI b s = 0) : OkW b ∧ OkW s := by
  unfold checkI at h
  split at h
  · cases h
  · rename_i h1
    split at h
    · cases h
    · rename_i h2
      have key : ∀ l : List (Int × Int), ¬ l.any badW = true → ∀ x ∈ l, 0 ≤ x.1 ∧ x.1 ≤ 1099511627776 ∧ 1 ≤ x.2 ∧ x.2 ≤ 64 := by
        intro l hl x hx
        have hb : ¬ badW x = true := fun e => hl (List.any_eq_true.2 ⟨x, hx, e⟩)
        unfold badW at hb
        simp only [Bool.or_eq_true, decide_eq_true_eq, not_or] at hb
        omega
      exact ⟨⟨by omega, key b (fun e => h2 (.inl e))⟩, ⟨by omega, key s (fun e => h2 (.inr e))⟩⟩
theorem ordT_mem {κ : Int × Int → Int} {l : List (Int × Int)} {x : Tri} (h : x ∈ ordT l (ordK κ l)) : 0 ≤ x.1 ∧ x.1 < (l.length : Int) ∧ l[x.1.toNat]? = some x.2 := by
  unfold ordT at h
  obtain ⟨who, hw, rfl⟩ := List.mem_map.1 h
  obtain ⟨h0, h1⟩ := ordK_in κ l who hw
  have hk : who.toNat < l.length := by omega
  refine ⟨h0, h1, ?_⟩
  simp only [List.getD_eq_getElem?_getD, List.getElem?_eq_getElem hk, Option.getD_some]
theorem OkW.count {l : List (Int × Int)} (h : OkW l) (κ : Int × Int → Int) : CountT (ordT l (ordK κ l)) := fun x hx => by
  have := h.2 x.2 (List.mem_of_getElem? (ordT_mem hx).2.2)
  omega
theorem OkW.mid {b s : List (Int × Int)} (hb : OkW b) (hs : OkW s) : MidW (ordT b (ordK κB b)) (ordT s (ordK κS s)) 0 0 := MidW.start (hb.count _) (hs.count _)
/-- What every trade of two lists of wants is. -/
theorem run_trd {b s : List (Int × Int)} (hb : OkW b) (hs : OkW s) {t : Trd} (ht : t ∈ (RunA b s).1) : (0 ≤ t.1.1 ∧ t.1.1 < (b.length : Int)) ∧ (0 ≤ t.2.1.1 ∧ t.2.1.1 < (s.length : Int)) ∧ (1 ≤ t.2.2 ∧ t.2.2 ≤ 64) ∧ (∃ c, b[t.1.1.toNat]? = some (t.1.2, c)) ∧ (∃ c, s[t.2.1.1.toNat]? = some (t.2.1.2, c)) ∧ t.2.1.2 ≤ t.1.2 := by
  obtain ⟨⟨x, hx, e1⟩, ⟨y, hy, e2⟩, h3, h4, h5⟩ := run_from (hb.mid hs) t ht
  obtain ⟨x1, x2, x3⟩ := ordT_mem hx
  obtain ⟨y1, y2, y3⟩ := ordT_mem hy
  rw [e1, e2]
  rw [e1, e2] at h5
  exact ⟨⟨x1, x2⟩, ⟨y1, y2⟩, ⟨h3, h4⟩, ⟨_, x3⟩, ⟨_, y3⟩, h5⟩
theorem run_few {b s : List (Int × Int)} (hb : OkW b) (hs : OkW s) : (RunA b s).1.length ≤ b.length + s.length := by
  have := run_len (hb.mid hs)
  have h1 := ordT_len b (ordK κB b)
  have h2 := ordT_len s (ordK κS s)
  have h3 := ordK_len κB b
  have h4 := ordK_len κS s
  unfold RunA
  omega
end Go.Proofs.Ytogicdljbnllgaa
