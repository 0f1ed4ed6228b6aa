/- A heap of dues, as container/heap turns it: plain; what stands in the document's list. -/
import Derived.Test.YtdaicdaakegdmaaBase
namespace Go.Proofs.Ytdaicdaakegdmaa

/-- A due: its tick, its number. -/
abbrev Du := Int × Int
def ltD (a b : Du) : Bool := decide (a.1 < b.1) || (decide (a.1 = b.1) && decide (a.2 < b.2))
theorem ltD_iff (a b : Du) : ltD a b = true ↔ a.1 < b.1 ∨ (a.1 = b.1 ∧ a.2 < b.2) := by
  simp [ltD]
def leD (a b : Du) : Prop := ltD b a = false
theorem leD_iff (a b : Du) : leD a b ↔ a.1 < b.1 ∨ (a.1 = b.1 ∧ a.2 ≤ b.2) := by
  unfold leD
  rw [← Bool.not_eq_true, ltD_iff]; omega
theorem leD_trans {a b c : Du} (h : leD a b) (k : leD b c) : leD a c := by
  rw [leD_iff] at *; omega
theorem leD_refl (a : Du) : leD a a := by rw [leD_iff]; omega
theorem leD_of_lt {a b : Du} (h : ltD a b = true) : leD a b := by
  rw [ltD_iff] at h; rw [leD_iff]; omega
theorem leD_of_not {a b : Du} (h : ltD a b = false) : leD b a := h
theorem ltD_or_eq {a b : Du} (h : leD a b) : ltD a b = true ∨ a = b := by
  rw [leD_iff] at h; rw [ltD_iff]
  rcases Int.lt_trichotomy a.2 b.2 with k | k | k
  · left; omega
  · rcases h with h | h
    · left; omega
    · right; exact Prod.ext h.1 k
  · left; omega

/-- What stands at a place. -/
def gD (l : List Du) (i : Nat) : Du := l.getD i (0, 0)
theorem gD_of {l : List Du} {i : Nat} (h : i < l.length) : gD l i = l[i] := by simp [gD, h]
theorem gD_append {l m : List Du} {i : Nat} (h : i < l.length) : gD (l ++ m) i = gD l i := by
  simp [gD, List.getElem?_append_left h]
theorem gD_take {l : List Du} {i n : Nat} (h : i < n) : gD (l.take n) i = gD l i := by
  simp [gD, h]

/-- Two places, turned. -/
def swD (l : List Du) (i j : Nat) : List Du := (l.set i (gD l j)).set j (gD l i)
theorem swD_length (l : List Du) (i j : Nat) : (swD l i j).length = l.length := by simp [swD]
theorem swD_get {l : List Du} {i j : Nat} (hi : i < l.length) (hj : j < l.length) (k : Nat) :
    gD (swD l i j) k = if k = j then gD l i else if k = i then gD l j else gD l k := by
  unfold swD
  rw [gD, List.getD_eq_getElem?_getD, List.getElem?_set]
  by_cases h : j = k
  · subst h; simp [hj]
  · rw [if_neg h, List.getElem?_set]
    by_cases h2 : i = k
    · subst h2
      rw [if_pos rfl, if_neg (Ne.symm h), if_pos rfl]; simp [hi]
    · rw [if_neg h2, if_neg (Ne.symm h), if_neg (Ne.symm h2)]; simp [gD]
theorem swD_perm {l : List Du} {i j : Nat} (hi : i < l.length) (hj : j < l.length) : List.Perm (swD l i j) l := by
  unfold swD; rw [gD_of hi, gD_of hj]
  exact List.set_set_perm hi hj

/-- container/heap's up. -/
def upD (l : List Du) (j : Nat) : List Du :=
  if _h : j = 0 then l else if ltD (gD l j) (gD l ((j - 1) / 2)) = true then upD (swD l ((j - 1) / 2) j) ((j - 1) / 2) else l
termination_by j
decreasing_by omega

/-- The lesser child. -/
def kidD (l : List Du) (i n : Nat) : Nat := if 2 * i + 2 < n ∧ ltD (gD l (2 * i + 2)) (gD l (2 * i + 1)) = true then 2 * i + 2 else 2 * i + 1
theorem kidD_le (l : List Du) (i n : Nat) : i < kidD l i n ∧ (2 * i + 1 < n → kidD l i n < n) ∧ (kidD l i n - 1) / 2 = i := by
  unfold kidD; split <;> omega

/-- container/heap's down: and where it ends. -/
def downD (l : List Du) (i n : Nat) : List Du × Nat :=
  if h : 2 * i + 1 < n then
    if ltD (gD l (kidD l i n)) (gD l i) = true then downD (swD l i (kidD l i n)) (kidD l i n) n else (l, i)
  else (l, i)
termination_by n - i
decreasing_by have := kidD_le l i n; omega

theorem upD_length : ∀ (j : Nat) (l : List Du), (upD l j).length = l.length := by
  intro j
  induction j using Nat.strongRecOn with
  | _ j ih =>
    intro l; rw [upD]; split
    · rfl
    · split
      · rw [ih _ (by omega), swD_length]
      · rfl
theorem upD_perm : ∀ (j : Nat) (l : List Du), j < l.length → List.Perm (upD l j) l := by
  intro j
  induction j using Nat.strongRecOn with
  | _ j ih =>
    intro l hj; rw [upD]; split
    · exact List.Perm.refl _
    · split
      · exact (ih _ (by omega) _ (by rw [swD_length]; omega)).trans (swD_perm (by omega) hj)
      · exact List.Perm.refl _

/-- A heap, of the first n. -/
def HeapD (l : List Du) (n : Nat) : Prop := ∀ c, 0 < c → c < n → leD (gD l ((c - 1) / 2)) (gD l c)
/-- But for what stands at j against its parent. -/
def UpE (l : List Du) (n j : Nat) : Prop :=
  (∀ c, 0 < c → c < n → c ≠ j → leD (gD l ((c - 1) / 2)) (gD l c)) ∧
  (∀ c, 0 < c → c < n → (c - 1) / 2 = j → 0 < j → leD (gD l ((j - 1) / 2)) (gD l c))
/-- But for what stands at i against its children (and its parent). -/
def DownE (l : List Du) (n i : Nat) : Prop :=
  (∀ c, 0 < c → c < n → (c - 1) / 2 ≠ i → c ≠ i → leD (gD l ((c - 1) / 2)) (gD l c)) ∧
  (∀ c, 0 < c → c < n → (c - 1) / 2 = i → 0 < i → leD (gD l ((i - 1) / 2)) (gD l c))

theorem upD_heap : ∀ (j : Nat) (l : List Du) (n : Nat), n ≤ l.length → j < n → UpE l n j → HeapD (upD l j) n := by
  intro j
  induction j using Nat.strongRecOn with
  | _ j ih =>
    intro l n hn hj hU
    rw [upD]
    split
    · rename_i h0
      intro c h1 h2; exact hU.1 c h1 h2 (by omega)
    · rename_i h0
      split
      · rename_i hlt
        have hg : ∀ k, gD (swD l ((j - 1) / 2) j) k = if k = j then gD l ((j - 1) / 2) else if k = (j - 1) / 2 then gD l j else gD l k := swD_get (by omega) (by omega)
        refine ih _ (by omega) _ n (by rw [swD_length]; exact hn) (by omega) ⟨?_, ?_⟩
        · intro c h1 h2 h3
          rw [hg, hg]
          by_cases e : c = j
          · subst e
            rw [if_neg (by omega), if_pos rfl, if_pos rfl]; exact leD_of_lt hlt
          · rw [if_neg e, if_neg h3]
            by_cases e2 : (c - 1) / 2 = j
            · rw [if_pos e2]; exact hU.2 c h1 h2 e2 (by omega)
            · rw [if_neg e2]
              by_cases e3 : (c - 1) / 2 = (j - 1) / 2
              · rw [if_pos e3]
                have := hU.1 c h1 h2 e
                rw [e3] at this
                exact leD_trans (leD_of_lt hlt) this
              · rw [if_neg e3]; exact hU.1 c h1 h2 e
        · intro c h1 h2 h3 h4
          rw [hg, hg, if_neg (by omega), if_neg (by omega)]
          have hp := hU.1 ((j - 1) / 2) h4 (by omega) (by omega)
          by_cases e : c = j
          · rw [if_pos e]; exact hp
          · rw [if_neg e, if_neg (by omega)]
            have := hU.1 c h1 h2 e
            rw [h3] at this
            exact leD_trans hp this
      · rename_i hlt
        intro c h1 h2
        by_cases e : c = j
        · subst e; exact leD_of_not (by simpa using hlt)
        · exact hU.1 c h1 h2 e

theorem downD_length : ∀ (m : Nat) (l : List Du) (i n : Nat), n - i = m → (downD l i n).1.length = l.length ∧ i ≤ (downD l i n).2 := by
  intro m
  induction m using Nat.strongRecOn with
  | _ m ih =>
    intro l i n hm; rw [downD]; split
    · split
      · have hk := kidD_le l i n
        have := ih (n - kidD l i n) (by omega) (swD l i (kidD l i n)) (kidD l i n) n rfl
        rw [swD_length] at this; exact ⟨this.1, by omega⟩
      · exact ⟨rfl, Nat.le_refl _⟩
    · exact ⟨rfl, Nat.le_refl _⟩
theorem downD_perm : ∀ (m : Nat) (l : List Du) (i n : Nat), n - i = m → n ≤ l.length → List.Perm (downD l i n).1 l ∧ (∀ k, n ≤ k → gD (downD l i n).1 k = gD l k) := by
  intro m
  induction m using Nat.strongRecOn with
  | _ m ih =>
    intro l i n hm hn; rw [downD]; split
    · split
      · have hk := kidD_le l i n
        have h1 : i < l.length := by omega
        have h2 : kidD l i n < l.length := by omega
        have := ih (n - kidD l i n) (by omega) (swD l i (kidD l i n)) (kidD l i n) n rfl (by rw [swD_length]; exact hn)
        refine ⟨this.1.trans (swD_perm h1 h2), fun k hk2 => ?_⟩
        rw [this.2 k hk2, swD_get h1 h2, if_neg (by omega), if_neg (by omega)]
      · exact ⟨List.Perm.refl _, fun _ _ => rfl⟩
    · exact ⟨List.Perm.refl _, fun _ _ => rfl⟩

/-- The lesser child is the least. -/
theorem kidD_least (l : List Du) (i n c : Nat) (h0 : 0 < c) (hc : c < n) (hp : (c - 1) / 2 = i) : leD (gD l (kidD l i n)) (gD l c) := by
  have h : c = 2 * i + 1 ∨ c = 2 * i + 2 := by omega
  unfold kidD
  split
  · rename_i h2
    rcases h with h | h
    · subst h; exact leD_of_lt h2.2
    · subst h; exact leD_refl _
  · rename_i h2
    rcases h with h | h
    · subst h; exact leD_refl _
    · subst h
      have : ltD (gD l (2 * i + 2)) (gD l (2 * i + 1)) = false := by
        by_cases e : ltD (gD l (2 * i + 2)) (gD l (2 * i + 1)) = true
        · exact absurd ⟨hc, e⟩ h2
        · simpa using e
      exact leD_of_not this

theorem down_step {l : List Du} {n i : Nat} (hn : n ≤ l.length) (hc : 2 * i + 1 < n) (hE : DownE l n i) (hlt : ltD (gD l (kidD l i n)) (gD l i) = true) :
    DownE (swD l i (kidD l i n)) n (kidD l i n) ∧ leD (gD (swD l i (kidD l i n)) ((kidD l i n - 1) / 2)) (gD (swD l i (kidD l i n)) (kidD l i n)) := by
  have hk := kidD_le l i n
  have hl := kidD_least l i n
  generalize kidD l i n = j at *
  have hg : ∀ k, gD (swD l i j) k = if k = j then gD l i else if k = i then gD l j else gD l k := swD_get (by omega) (by omega)
  refine ⟨⟨?_, ?_⟩, ?_⟩
  · intro c h1 h2 h3 h4
    rw [hg, hg, if_neg h3, if_neg h4]
    by_cases e : (c - 1) / 2 = i
    · rw [if_pos e, if_neg (by omega)]; exact hl c h1 h2 e
    · rw [if_neg e]
      by_cases e2 : c = i
      · subst e2
        rw [if_pos rfl]
        exact hE.2 j (by omega) (by omega) hk.2.2 h1
      · rw [if_neg e2]; exact hE.1 c h1 h2 e e2
  · intro c h1 h2 h3 h4
    rw [hg, hg, if_neg (by omega), if_pos (by omega), if_neg (by omega), if_neg (by omega)]
    have := hE.1 c h1 h2 (by omega) (by omega)
    rw [h3] at this; exact this
  · rw [hg, hg, if_pos rfl, if_neg (by omega), if_pos hk.2.2]; exact leD_of_lt hlt

/-- Downwards: a heap, if what stands above is right; or nothing turned. -/
theorem downD_heap : ∀ (m : Nat) (l : List Du) (i n : Nat), n - i = m → n ≤ l.length → DownE l n i →
    (0 < i → i < n → leD (gD l ((i - 1) / 2)) (gD l i)) → HeapD (downD l i n).1 n := by
  intro m
  induction m using Nat.strongRecOn with
  | _ m ih =>
    intro l i n hm hn hE hp
    rw [downD]
    split
    · rename_i hc
      split
      · rename_i hlt
        have hk := kidD_le l i n
        have := down_step hn hc hE hlt
        exact ih (n - kidD l i n) (by omega) _ _ n rfl (by rw [swD_length]; exact hn) this.1 (fun _ _ => this.2)
      · rename_i hlt
        intro c h1 h2
        by_cases e : c = i
        · subst e; exact hp h1 h2
        · by_cases e2 : (c - 1) / 2 = i
          · rw [e2]; exact leD_trans (leD_of_not (by simpa using hlt)) (kidD_least l i n c h1 h2 e2)
          · exact hE.1 c h1 h2 e2 e
    · rename_i hc
      intro c h1 h2
      by_cases e : c = i
      · subst e; exact hp h1 h2
      · exact hE.1 c h1 h2 (by omega) e
/-- Fix: downwards, and if nothing turned, upwards. -/
theorem fixD_heap {l : List Du} {i n : Nat} (hn : n ≤ l.length) (hi : i < n) (hE : DownE l n i) :
    ((downD l i n).2 > i → HeapD (downD l i n).1 n) ∧ (¬ (downD l i n).2 > i → (downD l i n).1 = l ∧ HeapD (upD l i) n) := by
  have key : ∀ hc : 2 * i + 1 < n, ltD (gD l (kidD l i n)) (gD l i) = true → (downD l i n).2 > i ∧ HeapD (downD l i n).1 n := by
    intro hc hlt
    have hk := kidD_le l i n
    have := down_step hn hc hE hlt
    rw [downD, dif_pos hc, if_pos hlt]
    have h2 := downD_length _ (swD l i (kidD l i n)) (kidD l i n) n rfl
    exact ⟨by omega, downD_heap _ _ _ n rfl (by rw [swD_length]; exact hn) this.1 (fun _ _ => this.2)⟩
  by_cases hc : 2 * i + 1 < n
  · by_cases hlt : ltD (gD l (kidD l i n)) (gD l i) = true
    · exact ⟨fun _ => (key hc hlt).2, fun h => absurd (key hc hlt).1 h⟩
    · have e : downD l i n = (l, i) := by rw [downD, dif_pos hc, if_neg hlt]
      rw [e]
      refine ⟨fun h => absurd h (Nat.lt_irrefl _), fun _ => ⟨rfl, upD_heap i l n hn hi ⟨?_, hE.2⟩⟩⟩
      intro c h1 h2 h3
      by_cases e2 : (c - 1) / 2 = i
      · rw [e2]; exact leD_trans (leD_of_not (by simpa using hlt)) (kidD_least l i n c h1 h2 e2)
      · exact hE.1 c h1 h2 e2 h3
  · have e : downD l i n = (l, i) := by rw [downD, dif_neg hc]
    rw [e]
    refine ⟨fun h => absurd h (Nat.lt_irrefl _), fun _ => ⟨rfl, upD_heap i l n hn hi ⟨?_, hE.2⟩⟩⟩
    intro c h1 h2 h3
    exact hE.1 c h1 h2 (by omega) h3
/-- The root is the least. -/
theorem HeapD.root {l : List Du} {n : Nat} (h : HeapD l n) : ∀ k, k < n → leD (gD l 0) (gD l k) := by
  intro k
  induction k using Nat.strongRecOn with
  | _ k ih =>
    intro hk
    by_cases e : k = 0
    · subst e; exact leD_refl _
    · exact leD_trans (ih ((k - 1) / 2) (by omega) (by omega)) (h k (by omega) hk)

/-- container/heap's Push, Pop, Remove, Fix. -/
def pushD (l : List Du) (d : Du) : List Du := upD (l ++ [d]) l.length
def popD (l : List Du) : List Du := (downD (swD l 0 (l.length - 1)) 0 (l.length - 1)).1.take (l.length - 1)
def mendD (l : List Du) (i n : Nat) : List Du := if (downD l i n).2 > i then (downD l i n).1 else upD (downD l i n).1 i
def removeD (l : List Du) (i : Nat) : List Du :=
  if l.length - 1 = i then l.take (l.length - 1) else (mendD (swD l i (l.length - 1)) i (l.length - 1)).take (l.length - 1)
def fixD (l : List Du) (i : Nat) (d : Du) : List Du := mendD (l.set i d) i l.length

/-- The document's list: without a number, with one more. -/
def woD (S : List Du) (n : Int) : List Du := S.filter (fun x => decide (x.2 ≠ n))
def wiD (S : List Du) (d : Du) : List Du := S.takeWhile (fun x => ltD x d) ++ d :: S.dropWhile (fun x => ltD x d)

/-- A heap of what stands in the document's list. -/
structure RelD (l S : List Du) : Prop where
  heap : HeapD l l.length
  perm : List.Perm l S
  up : S.Pairwise (fun a b => ltD a b = true)
  nod : (S.map (·.2)).Nodup

theorem mendD_length (l : List Du) (i n : Nat) : (mendD l i n).length = l.length := by
  have := downD_length _ l i n rfl
  unfold mendD; split
  · exact this.1
  · rw [upD_length]; exact this.1
theorem mendD_perm (l : List Du) (i n : Nat) (hn : n ≤ l.length) (hi : i < l.length) : List.Perm (mendD l i n) l := by
  have := downD_perm _ l i n rfl hn
  have h2 := downD_length _ l i n rfl
  unfold mendD; split
  · exact this.1
  · exact (upD_perm _ _ (by rw [h2.1]; exact hi)).trans this.1
theorem mendD_heap {l : List Du} {i n : Nat} (hn : n ≤ l.length) (hi : i < n) (hE : DownE l n i) : HeapD (mendD l i n) n := by
  have := fixD_heap hn hi hE
  unfold mendD; split
  · rename_i h; exact this.1 h
  · rename_i h; rw [(this.2 h).1]; exact (this.2 h).2
theorem upD_keeps : ∀ (j : Nat) (l : List Du) (k : Nat), j < k → j < l.length → gD (upD l j) k = gD l k := by
  intro j
  induction j using Nat.strongRecOn with
  | _ j ih =>
    intro l k hk hj; rw [upD]; split
    · rfl
    · split
      · rw [ih _ (by omega) _ k (by omega) (by rw [swD_length]; omega), swD_get (by omega) hj, if_neg (by omega), if_neg (by omega)]
      · rfl
theorem mendD_keeps (l : List Du) (i n k : Nat) (hn : n ≤ l.length) (hi : i < n) (hk : n ≤ k) : gD (mendD l i n) k = gD l k := by
  have := downD_perm _ l i n rfl hn
  have h2 := downD_length _ l i n rfl
  unfold mendD; split
  · exact this.2 k hk
  · rw [upD_keeps _ _ _ (by omega) (by rw [h2.1]; omega)]; exact this.2 k hk

theorem heapD_take {l : List Du} {n : Nat} (h : HeapD l n) (hn : n ≤ l.length) : HeapD (l.take n) (l.take n).length := by
  intro c h1 h2
  rw [List.length_take, Nat.min_eq_left hn] at h2
  rw [gD_take h2, gD_take (by omega)]; exact h c h1 h2

theorem take_last_perm {l : List Du} (h : 0 < l.length) : List.Perm l (gD l (l.length - 1) :: l.take (l.length - 1)) := by
  have e : l = l.take (l.length - 1) ++ [gD l (l.length - 1)] := by
    rw [gD_of (by omega)]
    have h1 : l ≠ [] := by intro h0; rw [h0] at h; simp at h
    rw [← List.dropLast_eq_take, ← List.getLast_eq_getElem h1, List.dropLast_concat_getLast]
  have h2 := List.perm_append_comm (l₁ := l.take (l.length - 1)) (l₂ := [gD l (l.length - 1)])
  rw [← e] at h2; simpa using h2

theorem perm_sorted_eq : ∀ {A B : List Du}, List.Perm A B → A.Pairwise (fun a b => ltD a b = true) → B.Pairwise (fun a b => ltD a b = true) → A = B := by
  intro A B h hA hB
  refine List.Perm.eq_of_pairwise (le := fun a b => ltD a b = true) ?_ hA hB h
  intro a b _ _ h1 h2
  rw [ltD_iff] at h1 h2; exact absurd h1 (by omega)

theorem wiD_perm (S : List Du) (d : Du) : List.Perm (wiD S d) (d :: S) := by
  unfold wiD
  refine List.perm_middle.trans ?_
  rw [List.takeWhile_append_dropWhile]
theorem dropWhile_not : ∀ (S : List Du) (d : Du), S.Pairwise (fun a b => ltD a b = true) → ∀ x ∈ S.dropWhile (fun x => ltD x d), ltD x d = false
  | [], _, _, x, hx => by simp at hx
  | a :: S, d, hS, x, hx => by
    rw [List.dropWhile_cons] at hx
    split at hx
    · exact dropWhile_not S d (List.pairwise_cons.1 hS).2 x hx
    · rename_i h
      have ha : ltD a d = false := by simpa using h
      rcases List.mem_cons.1 hx with rfl | hx
      · exact ha
      · have h2 := (List.pairwise_cons.1 hS).1 x hx
        exact leD_trans (a := d) (b := a) ha (leD_of_lt h2)
theorem takeWhile_lt : ∀ (S : List Du) (d : Du), ∀ x ∈ S.takeWhile (fun x => ltD x d), ltD x d = true
  | [], _, x, hx => by simp at hx
  | a :: S, d, x, hx => by
    rw [List.takeWhile_cons] at hx
    split at hx
    · rename_i h
      rcases List.mem_cons.1 hx with rfl | hx
      · exact h
      · exact takeWhile_lt S d x hx
    · simp at hx
theorem ltD_trans {a b c : Du} (h : ltD a b = true) (k : ltD b c = true) : ltD a c = true := by
  rw [ltD_iff] at *; omega
theorem wiD_up {S : List Du} {d : Du} (hS : S.Pairwise (fun a b => ltD a b = true)) (hd : ∀ x ∈ S, x.2 ≠ d.2) : (wiD S d).Pairwise (fun a b => ltD a b = true) := by
  have e := List.takeWhile_append_dropWhile (p := fun x => ltD x d) (l := S)
  have h1 := takeWhile_lt S d
  have h2 := dropWhile_not S d hS
  unfold wiD
  rw [← e] at hS hd
  generalize S.takeWhile (fun x => ltD x d) = A at *
  generalize S.dropWhile (fun x => ltD x d) = B at *
  rw [List.pairwise_append] at hS ⊢
  have h3 : ∀ x ∈ B, ltD d x = true := by
    intro x hx
    rcases ltD_or_eq (leD_of_not (h2 x hx)) with h | h
    · exact h
    · exact absurd (by rw [h]) (hd x (List.mem_append_right _ hx))
  refine ⟨hS.1, List.pairwise_cons.2 ⟨h3, hS.2.1⟩, fun a ha b hb => ?_⟩
  rcases List.mem_cons.1 hb with rfl | hb
  · exact h1 a ha
  · exact hS.2.2 a ha b hb
theorem woD_not {S : List Du} {n : Int} (h : ∀ x ∈ S, x.2 ≠ n) : woD S n = S := by
  unfold woD; rw [List.filter_eq_self]; intro x hx; simpa using h x hx
theorem woD_perm_cons {S : List Du} {x : Du} {T : List Du} (hp : List.Perm S (x :: T)) (hT : ∀ y ∈ T, y.2 ≠ x.2) : List.Perm (woD S x.2) T := by
  have := hp.filter (fun y => decide (y.2 ≠ x.2))
  unfold woD
  refine this.trans ?_
  rw [List.filter_cons_of_neg (by simp)]
  rw [List.filter_eq_self.2 (by intro y hy; simpa using hT y hy)]
theorem woD_up {S : List Du} (n : Int) (hS : S.Pairwise (fun a b => ltD a b = true)) : (woD S n).Pairwise (fun a b => ltD a b = true) := hS.filter _
theorem woD_nod {S : List Du} (n : Int) (hS : (S.map (·.2)).Nodup) : ((woD S n).map (·.2)).Nodup :=
  List.Nodup.sublist (List.Sublist.map _ List.filter_sublist) hS
theorem woD_mem {S : List Du} {n : Int} {x : Du} (h : x ∈ woD S n) : x ∈ S ∧ x.2 ≠ n := by
  unfold woD at h; rw [List.mem_filter] at h; simpa using h

theorem RelD.length {l S : List Du} (h : RelD l S) : l.length = S.length := h.perm.length_eq
theorem RelD.lnod {l S : List Du} (h : RelD l S) : (l.map (·.2)).Nodup := (h.perm.map (·.2)).nodup_iff.2 h.nod
theorem relD_nil : RelD [] [] := ⟨fun _ _ h => absurd h (by simp), List.Perm.refl _, List.Pairwise.nil, List.nodup_nil⟩

theorem RelD.push {l S : List Du} (h : RelD l S) (d : Du) (hd : ∀ x ∈ S, x.2 ≠ d.2) : RelD (pushD l d) (wiD S d) := by
  have hl : (pushD l d).length = l.length + 1 := by unfold pushD; rw [upD_length]; simp
  refine ⟨?_, ?_, wiD_up h.up hd, ?_⟩
  · rw [hl]; unfold pushD
    refine upD_heap _ _ _ (by simp) (by omega) ⟨?_, ?_⟩
    · intro c h1 h2 h3
      rw [gD_append (by omega), gD_append (by omega)]; exact h.heap c h1 (by omega)
    · intro c h1 h2 h3 h4; omega
  · refine (upD_perm _ _ (by simp)).trans ?_
    refine (List.perm_append_comm (l₁ := l) (l₂ := [d])).trans ?_
    exact (List.Perm.cons d h.perm).trans (wiD_perm S d).symm
  · refine (((wiD_perm S d).map (·.2)).nodup_iff).2 ?_
    rw [List.map_cons, List.nodup_cons]
    refine ⟨?_, h.nod⟩
    intro hm
    obtain ⟨x, hx, e⟩ := List.mem_map.1 hm
    exact hd x hx e

/-- A list, one place of it struck. -/
theorem perm_at {l : List Du} {i : Nat} (hi : i < l.length) : List.Perm l (gD l i :: l.eraseIdx i) := by
  rw [gD_of hi, List.eraseIdx_eq_take_drop_succ]
  have e : l = l.take i ++ l[i] :: l.drop (i + 1) := by rw [List.getElem_cons_drop, List.take_append_drop]
  exact (List.Perm.of_eq e).trans List.perm_middle
theorem nod_at {l : List Du} (hn : (l.map (·.2)).Nodup) {i : Nat} (hi : i < l.length) : ∀ y ∈ l.eraseIdx i, y.2 ≠ (gD l i).2 := by
  have := ((perm_at hi).map (·.2)).nodup_iff.1 hn
  rw [List.map_cons, List.nodup_cons] at this
  intro y hy e
  exact this.1 (List.mem_map.2 ⟨y, hy, e⟩)

theorem set_perm {l : List Du} {i : Nat} (d : Du) (hi : i < l.length) : List.Perm (l.set i d) (d :: l.eraseIdx i) := by
  have h := perm_at (l := l.set i d) (i := i) (by simpa using hi)
  rw [List.eraseIdx_set_eq] at h
  rwa [gD_of (by simpa using hi), List.getElem_set_self] at h

theorem gD_set {l : List Du} {i k : Nat} {d : Du} (h : k ≠ i) : gD (l.set i d) k = gD l k := by
  simp [gD, List.getElem?_set_ne (Ne.symm h)]

theorem downE_set {l : List Du} {i : Nat} (d : Du) (hh : HeapD l l.length) (hi : i < l.length) : DownE (l.set i d) l.length i := by
  refine ⟨?_, ?_⟩
  · intro c h1 h2 h3 h4
    rw [gD_set h3, gD_set h4]; exact hh c h1 h2
  · intro c h1 h2 h3 h4
    rw [gD_set (by omega), gD_set (by omega)]
    have a := hh c h1 h2
    rw [h3] at a
    exact leD_trans (hh i h4 hi) a

theorem RelD.fix {l S : List Du} (h : RelD l S) {i : Nat} (hi : i < l.length) (t : Int) :
    RelD (fixD l i (t, (gD l i).2)) (wiD (woD S (gD l i).2) (t, (gD l i).2)) := by
  have hlen : (fixD l i (t, (gD l i).2)).length = l.length := by unfold fixD; rw [mendD_length]; simp
  have hne : ∀ x ∈ woD S (gD l i).2, x.2 ≠ ((t, (gD l i).2) : Du).2 := fun x hx => (woD_mem hx).2
  refine ⟨?_, ?_, wiD_up (woD_up _ h.up) hne, ?_⟩
  · rw [hlen]; exact mendD_heap (by simp) hi (downE_set _ h.heap hi)
  · refine (mendD_perm _ _ _ (by simp) (by simpa using hi)).trans ?_
    refine (set_perm _ hi).trans ?_
    refine List.Perm.trans (List.Perm.cons _ ?_) (wiD_perm _ _).symm
    exact (woD_perm_cons (h.perm.symm.trans (perm_at hi)) (nod_at h.lnod hi)).symm
  · refine (((wiD_perm _ _).map (·.2)).nodup_iff).2 ?_
    rw [List.map_cons, List.nodup_cons]
    refine ⟨?_, woD_nod _ h.nod⟩
    intro hm
    obtain ⟨x, hx, e⟩ := List.mem_map.1 hm
    exact hne x hx e

theorem eraseIdx_last {l : List Du} (_h : 0 < l.length) : l.eraseIdx (l.length - 1) = l.take (l.length - 1) := by
  rw [← List.dropLast_eq_take, List.eraseIdx_length_sub_one]

theorem removeD_perm {l : List Du} {i : Nat} (hi : i < l.length) : List.Perm (removeD l i) (l.eraseIdx i) := by
  unfold removeD
  split
  · rename_i e; rw [← e, eraseIdx_last (by omega)]
  · rename_i e
    have hm : (mendD (swD l i (l.length - 1)) i (l.length - 1)).length = l.length := by rw [mendD_length, swD_length]
    have h1 := take_last_perm (l := mendD (swD l i (l.length - 1)) i (l.length - 1)) (by omega)
    rw [hm, mendD_keeps _ _ _ _ (by rw [swD_length]; omega) (by omega) (Nat.le_refl _), swD_get hi (by omega), if_pos rfl] at h1
    have h2 := mendD_perm (swD l i (l.length - 1)) i (l.length - 1) (by rw [swD_length]; omega) (by rw [swD_length]; exact hi)
    have h3 := h1.symm.trans (h2.trans ((swD_perm hi (by omega)).trans (perm_at hi)))
    exact List.Perm.cons_inv h3

theorem RelD.remove {l S : List Du} (h : RelD l S) {i : Nat} (hi : i < l.length) : RelD (removeD l i) (woD S (gD l i).2) := by
  have hp : List.Perm (removeD l i) (woD S (gD l i).2) :=
    (removeD_perm hi).trans (woD_perm_cons (h.perm.symm.trans (perm_at hi)) (nod_at h.lnod hi)).symm
  refine ⟨?_, hp, woD_up _ h.up, woD_nod _ h.nod⟩
  unfold removeD
  split
  · refine heapD_take ?_ (by omega)
    intro c h1 h2; exact h.heap c h1 (by omega)
  · rename_i e
    refine heapD_take ?_ (by rw [mendD_length, swD_length]; omega)
    refine mendD_heap (by rw [swD_length]; omega) (by omega) ⟨?_, ?_⟩
    · intro c h1 h2 h3 h4
      rw [swD_get hi (by omega), swD_get hi (by omega), if_neg (by omega), if_neg (by omega), if_neg (by omega), if_neg h4]
      exact h.heap c h1 (by omega)
    · intro c h1 h2 h3 h4
      rw [swD_get hi (by omega), swD_get hi (by omega), if_neg (by omega), if_neg (by omega), if_neg (by omega), if_neg (by omega)]
      have a := h.heap c h1 (by omega)
      rw [h3] at a
      exact leD_trans (h.heap i h4 hi) a

theorem RelD.head {l S : List Du} {s : Du} (h : RelD l (s :: S)) : gD l 0 = s := by
  have hl := h.length
  rw [List.length_cons] at hl
  have hs : s ∈ l := h.perm.mem_iff.2 List.mem_cons_self
  obtain ⟨k, hk, e⟩ := List.mem_iff_getElem.1 hs
  have h1 := h.heap.root k hk
  rw [gD_of hk, e] at h1
  have h0 : gD l 0 ∈ s :: S := by rw [gD_of (by omega)]; exact h.perm.mem_iff.1 (List.getElem_mem _)
  rcases List.mem_cons.1 h0 with h0 | h0
  · exact h0
  · have h2 := (List.pairwise_cons.1 h.up).1 _ h0
    exact absurd h2 (by rw [leD] at h1; rw [h1]; simp)

theorem popD_eq {l : List Du} (hl : 0 < l.length) : popD l = removeD l 0 ∨ (popD l = [] ∧ l.length = 1) := by
  unfold popD removeD
  by_cases e : l.length = 1
  · right; exact ⟨by rw [e]; simp, e⟩
  · left
    rw [if_neg (by omega)]
    unfold mendD
    split
    · rfl
    · rename_i hn
      have : (downD (swD l 0 (l.length - 1)) 0 (l.length - 1)).2 = 0 := by omega
      rw [upD, dif_pos rfl]

theorem RelD.pop {l S : List Du} {s : Du} (h : RelD l (s :: S)) : RelD (popD l) S := by
  have hl := h.length
  rw [List.length_cons] at hl
  have hs := h.head
  rcases popD_eq (l := l) (by omega) with e | ⟨e, e1⟩
  · rw [e]
    have := h.remove (i := 0) (by omega)
    rw [hs] at this
    have e2 : woD (s :: S) s.2 = S := by
      have h3 := h.nod
      rw [List.map_cons, List.nodup_cons] at h3
      unfold woD
      rw [List.filter_cons_of_neg (by simp), List.filter_eq_self.2]
      intro y hy
      have : y.2 ≠ s.2 := fun e => h3.1 (List.mem_map.2 ⟨y, hy, e⟩)
      simpa using this
    rwa [e2] at this
  · have : S = [] := List.eq_nil_of_length_eq_zero (by omega)
    rw [e, this]; exact relD_nil
end Go.Proofs.Ytdaicdaakegdmaa
