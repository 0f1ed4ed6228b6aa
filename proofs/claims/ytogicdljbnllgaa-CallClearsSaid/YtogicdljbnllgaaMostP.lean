/- No other pairing gains more: plain. -/
import Derived.Test.YtogicdljbnllgaaFairR
import Derived.Test.YtogicdljbnllgaaGains
namespace Go.Proofs.Ytogicdljbnllgaa
open Go.Shelf Go.RowKit Go.Lib Go.Sort Go.Proofs

/-- What numbers of units gain against a price. -/
def dotP : List Int → List (Int × Int) → Int → Int
  | u :: us, z :: l, q => u * (z.1 - q) + dotP us l q
  | _, _, _ => 0
theorem dot_zero : ∀ (l : List (Int × Int)) (n : Nat) (q : Int), dotP (List.replicate n 0) l q = 0
  | [], 0, _ => rfl
  | [], _ + 1, _ => rfl
  | z :: l, 0, _ => rfl
  | z :: l, n + 1, q => by rw [List.replicate_succ]; simp only [dotP, dot_zero l n q, Int.zero_mul, Int.add_zero]
theorem dot_add : ∀ (u : List Int) (l : List (Int × Int)) (i : Nat) (n q : Int) (z : Int × Int), u.length = l.length → l[i]? = some z → dotP (addAt u i n) l q = dotP u l q + n * (z.1 - q)
  | [], l, i, n, q, z, hl, hz => by
    obtain rfl : l = [] := List.eq_nil_of_length_eq_zero (by simpa using hl.symm)
    simp at hz
  | x :: u, [], i, n, q, z, hl, hz => by simp at hz
  | x :: u, y :: l, 0, n, q, z, hl, hz => by
    simp only [List.getElem?_cons_zero, Option.some.injEq] at hz
    subst hz
    simp only [addAt, List.getD_cons_zero, List.set_cons_zero, dotP, Int.add_mul]
    omega
  | x :: u, y :: l, i + 1, n, q, z, hl, hz => by
    have := dot_add u l i n q z (by simpa using hl) (by simpa using hz)
    unfold addAt at this
    simp only [addAt, List.getD_cons_succ, List.set_cons_succ, dotP, this]
    omega
theorem dot_le : ∀ (u v : List Int) (l : List (Int × Int)) (q : Int), u.length = l.length → v.length = l.length → (∀ (i : Nat) z x y, l[i]? = some z → u[i]? = some x → v[i]? = some y → x * (z.1 - q) ≤ y * (z.1 - q)) → dotP u l q ≤ dotP v l q
  | [], [], l, q, _, _, _ => Int.le_refl _
  | [], _ :: _, l, q, h1, h2, _ => by simp at h1 h2; omega
  | _ :: _, [], l, q, h1, h2, _ => by simp at h1 h2; omega
  | x :: u, y :: v, [], q, h1, _, _ => by simp at h1
  | x :: u, y :: v, z :: l, q, h1, h2, h => by
    have k1 := dot_le u v l q (by simpa using h1) (by simpa using h2) (fun i z' x' y' a b c => h (i + 1) z' x' y' (by simpa using a) (by simpa using b) (by simpa using c))
    have k2 := h 0 z x y rfl rfl rfl
    simp only [dotP]
    omega
theorem dot_ge : ∀ (u v : List Int) (l : List (Int × Int)) (q : Int), u.length = l.length → v.length = l.length → (∀ (i : Nat) z x y, l[i]? = some z → u[i]? = some x → v[i]? = some y → y * (z.1 - q) ≤ x * (z.1 - q)) → dotP v l q ≤ dotP u l q :=
  fun u v l q h1 h2 h => dot_le v u l q h2 h1 (fun i z x y a b c => h i z y x a c b)
theorem dot_snoc : ∀ (u : List Int) (l : List (Int × Int)) (x : Int) (z : Int × Int) (q : Int), u.length = l.length → dotP (u ++ [x]) (l ++ [z]) q = dotP u l q + x * (z.1 - q)
  | [], [], x, z, q, _ => by simp [dotP]
  | [], _ :: _, _, _, _, h => by simp at h
  | _ :: _, [], _, _, _, h => by simp at h
  | a :: u, c :: l, x, z, q, h => by
    simp only [List.cons_append, dotP, dot_snoc u l x z q (by simpa using h)]
    omega
theorem dot_bound : ∀ (u : List Int) (l : List (Int × Int)), (∀ x ∈ u, 0 ≤ x ∧ x ≤ 64) → (∀ z ∈ l, 0 ≤ z.1 ∧ z.1 ≤ 1099511627776) → 0 ≤ dotP u l 0 ∧ dotP u l 0 ≤ 70368744177664 * l.length
  | [], l, _, _ => by simp only [dotP]; omega
  | _ :: _, [], _, _ => by simp [dotP]
  | x :: u, z :: l, hu, hl => by
    have h1 := dot_bound u l (fun y hy => hu y (List.mem_cons_of_mem _ hy)) (fun y hy => hl y (List.mem_cons_of_mem _ hy))
    have h2 := hu x List.mem_cons_self
    have h3 := hl z List.mem_cons_self
    have h4 : 0 ≤ x * z.1 := Int.mul_nonneg h2.1 h3.1
    have h5 : x * z.1 ≤ 64 * z.1 := Int.mul_le_mul_of_nonneg_right h2.2 h3.1
    simp only [dotP, Int.sub_zero, List.length_cons]
    omega
theorem dot_fold (f : Trd → Nat) (c : Trd → Int) (l : List (Int × Int)) (q : Int) : ∀ (ts : List Trd) (u : List Int), u.length = l.length → (∀ t ∈ ts, ∃ n, l[f t]? = some (c t, n)) → dotP (ts.foldl (fun l t => addAt l (f t) t.2.2) u) l q = dotP u l q + (ts.map fun t => t.2.2 * (c t - q)).sum
  | [], u, _, _ => by simp
  | t :: ts, u, hu, h => by
    obtain ⟨n, hn⟩ := h t List.mem_cons_self
    rw [List.foldl_cons, dot_fold f c l q ts _ (by rw [addAt_len]; exact hu) (fun v hv => h v (List.mem_cons_of_mem _ hv)), dot_add _ _ _ _ _ _ hu hn, List.map_cons, List.sum_cons]
    simp only
    omega
theorem gain_split (ts : List Trd) (q : Int) : gainT ts = (ts.map fun t => t.2.2 * (t.1.2 - q)).sum - (ts.map fun t => t.2.2 * (t.2.1.2 - q)).sum := by
  induction ts with
  | nil => rfl
  | cons t ts ih =>
    unfold gainT at ih ⊢
    rw [List.map_cons, List.map_cons, List.map_cons, List.sum_cons, List.sum_cons, List.sum_cons, ih, Int.mul_sub, Int.mul_sub, Int.mul_sub]
    omega
/-- What the trades gain, by who gets how many. -/
theorem gain_dot {b s : List (Int × Int)} (hb : OkW b) (hs : OkW s) (q : Int) : gainT (RunA b s).1 = dotP (givenB b.length (RunA b s).1) b q - dotP (givenS s.length (RunA b s).1) s q := by
  have h1 := dot_fold (fun t => t.1.1.toNat) (fun t => t.1.2) b q (RunA b s).1 (List.replicate b.length 0) (by simp) (fun t ht => (run_trd hb hs ht).2.2.2.1)
  have h2 := dot_fold (fun t => t.2.1.1.toNat) (fun t => t.2.1.2) s q (RunA b s).1 (List.replicate s.length 0) (by simp) (fun t ht => (run_trd hb hs ht).2.2.2.2.1)
  rw [gain_split _ q]
  unfold givenB givenS
  rw [h1, h2, dot_zero, dot_zero]
  omega
/-- Units that may be used. -/
structure UseP (b s : List (Int × Int)) (ub us : List Int) (g : Int) : Prop where
  lenB : ub.length = b.length
  lenS : us.length = s.length
  buy : ∀ (i : Nat) z a, b[i]? = some z → ub[i]? = some a → 0 ≤ a ∧ a ≤ z.2
  sell : ∀ (i : Nat) z a, s[i]? = some z → us[i]? = some a → 0 ≤ a ∧ a ≤ z.2
  sum : ∀ q, g = dotP ub b q - dotP us s q
theorem mul_mono {x y d : Int} (h : (0 < d → x ≤ y) ∧ (d < 0 → y ≤ x)) : x * d ≤ y * d := by
  rcases Int.lt_trichotomy d 0 with hd | hd | hd
  · exact Int.mul_le_mul_of_nonpos_right (h.2 hd) (Int.le_of_lt hd)
  · rw [hd]; simp
  · exact Int.mul_le_mul_of_nonneg_right (h.1 hd) (Int.le_of_lt hd)
theorem use_le {b s : List (Int × Int)} (hb : OkW b) (hs : OkW s) {ub us : List Int} {g : Int} (h : UseP b s ub us g) : g ≤ gainT (RunA b s).1 := by
  obtain ⟨p, hf⟩ := fair_any hb hs
  rw [h.sum p, gain_dot hb hs p]
  have h1 : dotP ub b p ≤ dotP (givenB b.length (RunA b s).1) b p := by
    refine dot_le _ _ _ _ h.lenB (givenB_len _ _) (fun i z x y hz hx hy => ?_)
    have hi : i < b.length := (List.getElem?_eq_some_iff.1 hz).1
    rw [givenB_at (fun t ht => (run_trd hb hs ht).1.1) hi, Option.some.injEq] at hy
    subst hy
    obtain ⟨k1, k2, k3, k4⟩ := hf.buy i z hz
    obtain ⟨k5, k6⟩ := h.buy i z x hz hx
    refine mul_mono ⟨fun hd => ?_, fun hd => ?_⟩
    · have := k4 (by omega); omega
    · rcases Int.lt_or_le 0 (giv (RunA b s).1 (i : Int)) with hp | hp
      · have := k3 hp; omega
      · omega
  have h2 : dotP (givenS s.length (RunA b s).1) s p ≤ dotP us s p := by
    refine dot_le _ _ _ _ (givenS_len _ _) h.lenS (fun i z y x hz hy hx => ?_)
    have hi : i < s.length := (List.getElem?_eq_some_iff.1 hz).1
    rw [givenS_at (fun t ht => (run_trd hb hs ht).2.1.1) hi, Option.some.injEq] at hy
    subst hy
    obtain ⟨k1, k2, k3, k4⟩ := hf.sell i z hz
    obtain ⟨k5, k6⟩ := h.sell i z x hz hx
    refine mul_mono ⟨fun hd => ?_, fun hd => ?_⟩
    · rcases Int.lt_or_le 0 (giv ((RunA b s).1.map swp) (i : Int)) with hp | hp
      · have := k3 hp; omega
      · omega
    · have := k4 (by omega); omega
  omega
theorem use_start (b s : List (Int × Int)) (hb : OkW b) (hs : OkW s) : UseP b s (List.replicate b.length 0) (List.replicate s.length 0) 0 := by
  have key : ∀ (l : List (Int × Int)), OkW l → ∀ (i : Nat) z a, l[i]? = some z → (List.replicate l.length (0 : Int))[i]? = some a → 0 ≤ a ∧ a ≤ z.2 := fun l hl i z a hz ha => by
    have := hl.2 z (List.mem_of_getElem? hz)
    obtain rfl := List.eq_of_mem_replicate (List.mem_of_getElem? ha)
    omega
  exact ⟨by simp, by simp, key b hb, key s hs, fun q => by rw [dot_zero, dot_zero]; rfl⟩
theorem addAt_in {l : List (Int × Int)} {u : List Int} {i : Nat} {n : Int} (h : ∀ (j : Nat) z a, l[j]? = some z → u[j]? = some a → 0 ≤ a ∧ a ≤ z.2) {z : Int × Int} {x : Int} (hz : l[i]? = some z) (hx : u[i]? = some x) (hn : 0 ≤ n) (hm : x + n ≤ z.2) : ∀ (j : Nat) z a, l[j]? = some z → (addAt u i n)[j]? = some a → 0 ≤ a ∧ a ≤ z.2 := by
  intro j z' a hz' ha
  rw [addAt_at] at ha
  by_cases e : i = j
  · subst e
    rw [if_pos rfl, hx] at ha
    rw [hz] at hz'
    have := (h i z x hz hx).1
    cases hz'
    cases ha
    simp only
    omega
  · rw [if_neg e] at ha
    exact h j z' a hz' ha
theorem UseP.step {b s : List (Int × Int)} {ub us : List Int} {g : Int} (h : UseP b s ub us g) {i k : Nat} {x y : Int × Int} {u v n : Int} (hx : b[i]? = some x) (hy : s[k]? = some y) (hu : ub[i]? = some u) (hv : us[k]? = some v) (hn : 0 ≤ n) (h1 : n ≤ x.2 - u) (h2 : n ≤ y.2 - v) :
    UseP b s (addAt ub i n) (addAt us k n) (g + n * (x.1 - y.1)) := by
  refine ⟨by rw [addAt_len]; exact h.lenB, by rw [addAt_len]; exact h.lenS, addAt_in h.buy hx hu hn (by omega), addAt_in h.sell hy hv hn (by omega), fun q => ?_⟩
  rw [dot_add _ _ _ _ _ _ h.lenB hx, dot_add _ _ _ _ _ _ h.lenS hy, h.sum q, Int.mul_sub, Int.mul_sub, Int.mul_sub]
  omega
theorem UseP.bound {b s : List (Int × Int)} {ub us : List Int} {g : Int} (h : UseP b s ub us g) (hb : OkW b) (hs : OkW s) : -(70368744177664 * (s.length : Int)) ≤ g ∧ g ≤ 70368744177664 * (b.length : Int) := by
  have key : ∀ (l : List (Int × Int)) (u : List Int), OkW l → u.length = l.length → (∀ (i : Nat) z a, l[i]? = some z → u[i]? = some a → 0 ≤ a ∧ a ≤ z.2) → 0 ≤ dotP u l 0 ∧ dotP u l 0 ≤ 70368744177664 * l.length := fun l u hl hlen hr => by
    refine dot_bound u l (fun x hx => ?_) (fun z hz => by have := hl.2 z hz; omega)
    obtain ⟨i, hi, rfl⟩ := List.getElem_of_mem hx
    have hi' : i < l.length := by omega
    have h1 := hr i l[i] u[i] (List.getElem?_eq_getElem hi') (List.getElem?_eq_getElem hi)
    have h2 := hl.2 l[i] (List.getElem_mem hi')
    omega
  have h1 := key b ub hb h.lenB h.buy
  have h2 := key s us hs h.lenS h.sell
  have h3 := h.sum 0
  omega
/-- Without the last buyer no more is gained. -/
theorem less_le {b s : List (Int × Int)} (hb : OkW b) (hs : OkW s) (hne : b ≠ []) : OkW b.dropLast ∧ gainT (RunA b.dropLast s).1 ≤ gainT (RunA b s).1 := by
  obtain ⟨l, z, rfl⟩ : ∃ l z, b = l ++ [z] := ⟨b.dropLast, b.getLast hne, (List.dropLast_concat_getLast hne).symm⟩
  rw [List.dropLast_concat]
  have hl : OkW l := ⟨by have := hb.1; simp only [List.length_append, List.length_cons, List.length_nil] at this; omega, fun x hx => hb.2 x (List.mem_append_left _ hx)⟩
  refine ⟨hl, use_le hb hs (ub := givenB l.length (RunA l s).1 ++ [0]) (us := givenS s.length (RunA l s).1) ⟨?_, givenS_len _ _, ?_, ?_, ?_⟩⟩
  · rw [List.length_append, List.length_append, givenB_len]; rfl
  · intro i z' a hz ha
    by_cases hi : i < l.length
    · rw [List.getElem?_append_left hi] at hz
      rw [List.getElem?_append_left (by rw [givenB_len]; exact hi)] at ha
      obtain ⟨a', h1, _, h2, h3, _⟩ := fairB hl hs hz
      rw [ha] at h1
      cases h1
      exact ⟨h2, h3⟩
    · have := hb.2 z' (List.mem_of_getElem? hz)
      rw [List.getElem?_append_right (by rw [givenB_len]; omega)] at ha
      obtain rfl : a = 0 := by simpa using List.mem_of_getElem? ha
      omega
  · intro i z' a hz ha
    obtain ⟨a', h1, _, h2, h3, _⟩ := fairS hl hs hz
    rw [ha] at h1
    cases h1
    exact ⟨h2, h3⟩
  · intro q
    rw [dot_snoc _ _ _ _ _ (givenB_len _ _), Int.zero_mul, Int.add_zero]
    exact gain_dot hl hs q
end Go.Proofs.Ytogicdljbnllgaa
