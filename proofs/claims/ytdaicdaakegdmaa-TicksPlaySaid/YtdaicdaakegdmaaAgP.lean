/- Two calendars side by side; what TicksAgree's lists hold, in plain Lean. -/
import Derived.Test.YtdaicdaakegdmaaKno
namespace Go.Proofs.Ytdaicdaakegdmaa
open Go.RowKit Go.Maps
open Go.ChangeMaps Go.WideMaps

section
variable {w w' : World} {B p r x m n : Nat} {v : Value} {now : Int} {l : List Du} {f : Int → Option Nat}
theorem CalF.only {S : Nat → Prop} (h : CalF w B p r x m v now l f n) (ho : Only S w w') (hS : ∀ k, (Foot p r m v k ∨ k = x) → ¬ S k) : CalF w' B p r x m v now l f n := by
  have key : ∀ {k : Nat} {o : Obj}, (Foot p r m v k ∨ k = x) → w.heap[k]? = some o → w'.heap[k]? = some o := fun hk hb => (ho.block _ (lt_of_block hb) (hS _ hk)).trans hb
  refine ⟨key (.inl (.inl rfl)) h.tk, key (.inl (.inr (.inl rfl))) h.rw_, key (.inr rfl) h.box, ?_, ?_, h.base, h.nod, h.len, h.ok⟩
  · obtain ⟨h1, h2⟩ := h.row
    refine ⟨h1, ?_⟩
    rcases h2 with h2 | ⟨g, cap, cur, hv, hb, hh, hr⟩
    · exact .inl h2
    · exact .inr ⟨g, cap, cur, hv, hb, key (.inl (.inr (.inr (.inr (by rw [hv]; rfl))))) hh, hr⟩
  · obtain ⟨D, ⟨es, clock, hb, F, hs, hD⟩, h2, h3⟩ := h.map
    exact ⟨D, ⟨es, clock, key (.inl (.inr (.inr (.inl rfl)))) hb, F, hs, hD⟩, h2, h3⟩
end

/-- A row of one's own stands while what it is not in turns. -/
theorem own_only {w w1 : World} {B e size n : Nat} {vo : Value} {xs : List Value} {S : Nat → Prop} (h : w.ownsRow B e size vo n xs) (ho : Only S w w1) (hS : ∀ g, vo.ownBlock = some g → ¬ S g) : w1.ownsRow B e size vo n xs := by
  obtain ⟨h1, h2⟩ := h
  refine ⟨h1, ?_⟩
  rcases h2 with h2 | ⟨g, cap, cur, hv, hb, hh, hr⟩
  · exact .inl h2
  · exact .inr ⟨g, cap, cur, hv, hb, (ho.block g (lt_of_block hh) (hS g (by rw [hv]; rfl))).trans hh, hr⟩
/-- Two calendars that share nothing. -/
structure Two (w0 : World) (p r x m p' r' x' m' : Nat) (v v' : Value) (now now' : Int) (l l' S S' : List Du) (w : World) : Prop where
  ca : Cal w w0.heap.size p r x m v now l
  ra : RelD l S
  cb : Cal w w0.heap.size p' r' x' m' v' now' l'
  rb : RelD l' S'
  ap : ∀ k, (Foot p r m v k ∨ k = x) → ¬ (Foot p' r' m' v' k ∨ k = x')
  bel : Below w0.heap.size w0 w
section
variable {w0 w w1 : World} {p r x m p' r' x' m' : Nat} {v v' v1 : Value} {now now' t : Int} {l l' S S' l1 S1 : List Du}
theorem Two.comm (h : Two w0 p r x m p' r' x' m' v v' now now' l l' S S' w) : Two w0 p' r' x' m' p r x m v' v now' now l' l S' S w :=
  ⟨h.cb, h.rb, h.ca, h.ra, fun k a b => h.ap k b a, h.bel⟩
/-- A call on the first turns nothing of the second. -/
theorem Two.turn (h : Two w0 p r x m p' r' x' m' v v' now now' l l' S S' w) (hc : Cal w1 w0.heap.size p r x m v1 t l1) (hr : RelD l1 S1) (ho : Only (Foot p r m v) w w1) (hg : ∀ g, v1.ownBlock = some g → v.ownBlock = some g ∨ w.heap.size ≤ g) :
    Two w0 p r x m p' r' x' m' v1 v' t now' l1 l' S1 S' w1 := by
  refine ⟨hc, hr, CalF.only h.cb ho (fun k hk hf => h.ap k (.inl hf) hk), h.rb, fun k a b => ?_, h.bel.trans (foot_below h.ca ho h.bel.size)⟩
  have hk := CalF.lt h.cb k b
  rcases a with (rfl | rfl | rfl | e) | rfl
  · exact h.ap _ (.inl (.inl rfl)) b
  · exact h.ap _ (.inl (.inr (.inl rfl))) b
  · exact h.ap _ (.inl (.inr (.inr (.inl rfl)))) b
  · rcases hg k e with e' | e'
    · exact h.ap _ (.inl (.inr (.inr (.inr e')))) b
    · omega
  · exact h.ap _ (.inr rfl) b
theorem Two.below (h : Two w0 p r x m p' r' x' m' v v' now now' l l' S S' w) (hb : Below w.heap.size w w1) : Two w0 p r x m p' r' x' m' v v' now now' l l' S S' w1 :=
  ⟨CalF.below h.ca hb, h.ra, CalF.below h.cb hb, h.rb, h.ap, h.bel.trans (hb.mono h.bel.size)⟩
theorem Two.start {w2 : World} (h : Cal w1 w0.heap.size p r x m v now l) (hr : RelD l S) (hb : Below w0.heap.size w0 w1) (h' : Cal w2 w1.heap.size p' r' x' m' v' now' l') (hr' : RelD l' S') (hb' : Below w1.heap.size w1 w2) :
    Two w0 p r x m p' r' x' m' v v' now now' l l' S S' w2 := by
  refine ⟨CalF.below h hb', hr, CalF.lower h' hb.size, hr', fun k a b => ?_, hb.trans (hb'.mono hb.size)⟩
  have h1 := CalF.lt h k a
  rcases b with b | rfl
  · have := CalF.own_foot h' k b
    omega
  · have := h'.base.2.2.1
    omega
end

/-! ### the lists -/
/-- What the first calendar holds behind k rounds; what the second one holds. -/
def aS (list : List Du) : Nat → List Du
  | 0 => []
  | k + 1 => setS 0 (aS list k) k (gD list k).1
def bS (list : List Du) : Nat → List Du
  | 0 => []
  | k + 1 => setS 0 (bS list k) ((list.length - 1 - k : Nat) : Int) (gD list (list.length - 1 - k)).1
theorem setS_mem {S : List Du} {n : Nat} {t : Int} {d : Du} (h : ∀ y ∈ S, y.2 ≠ (n : Int)) : d ∈ setS 0 S n t ↔ d ∈ S ∨ (isT t = true ∧ d = (t, (n : Int))) := by
  have hn : ¬ (n : Int) < 0 := by omega
  by_cases ht : isT t = true
  · have h0 : ¬ t < 0 := by unfold isT at ht; simp at ht; omega
    have hc : setC 0 n t = 0 := by unfold setC; rw [if_neg (by simp [ht]), if_neg h0]
    unfold setS
    rw [if_pos hc, (wiD_perm _ _).mem_iff, woD_not h, List.mem_cons]
    constructor
    · rintro (e | e)
      · exact .inr ⟨ht, e⟩
      · exact .inl e
    · rintro (e | ⟨_, e⟩)
      · exact .inr e
      · exact .inl e
  · have ht' : isT t = false := by simpa using ht
    have hc : setC 0 n t = 2 := by unfold setC; rw [if_pos (.inr ht')]
    unfold setS
    rw [if_neg (by rw [hc]; decide)]
    simp [ht']
theorem aS_mem (list : List Du) : ∀ (k : Nat) (d : Du), d ∈ aS list k ↔ ∃ i, i < k ∧ isT (gD list i).1 = true ∧ d = ((gD list i).1, (i : Int)) := by
  intro k
  induction k with
  | zero => intro d; simp [aS]
  | succ k ih =>
    intro d
    unfold aS
    rw [setS_mem (fun y hy => by
      obtain ⟨i, hi, _, rfl⟩ := (ih y).1 hy
      simp; omega), ih d]
    constructor
    · rintro (⟨i, hi, h1, h2⟩ | ⟨h1, h2⟩)
      · exact ⟨i, by omega, h1, h2⟩
      · exact ⟨k, by omega, h1, h2⟩
    · rintro ⟨i, hi, h1, h2⟩
      rcases Nat.lt_or_ge i k with h | h
      · exact .inl ⟨i, h, h1, h2⟩
      · obtain rfl : i = k := by omega
        exact .inr ⟨h1, h2⟩
theorem bS_mem (list : List Du) : ∀ (k : Nat) (d : Du), k ≤ list.length → (d ∈ bS list k ↔ ∃ i, list.length - k ≤ i ∧ i < list.length ∧ isT (gD list i).1 = true ∧ d = ((gD list i).1, (i : Int))) := by
  intro k
  induction k with
  | zero =>
    intro d _
    constructor
    · intro h; simp [bS] at h
    · rintro ⟨i, h1, h2, _⟩; omega
  | succ k ih =>
    intro d hk
    unfold bS
    rw [setS_mem (fun y hy => by
      obtain ⟨i, hi, _, _, rfl⟩ := (ih y (by omega)).1 hy
      simp; omega), ih d (by omega)]
    constructor
    · rintro (⟨i, hi, h0, h1, h2⟩ | ⟨h1, h2⟩)
      · exact ⟨i, by omega, h0, h1, h2⟩
      · exact ⟨list.length - 1 - k, by omega, by omega, h1, h2⟩
    · rintro ⟨i, hi, h0, h1, h2⟩
      rcases Nat.lt_or_ge i (list.length - k) with h | h
      · obtain rfl : i = list.length - 1 - k := by omega
        exact .inr ⟨h1, h2⟩
      · exact .inl ⟨i, h, h0, h1, h2⟩
theorem up_nodup {S : List Du} (h : S.Pairwise (fun a b => ltD a b = true)) : S.Nodup := h.imp (fun {a b} hab e => by
  subst e
  rw [ltD_iff] at hab
  omega)
/-- Both calendars hold the same, in whatever order the numbers were set. -/
theorem ab_eq {list l l' : List Du} (h : RelD l (aS list list.length)) (h' : RelD l' (bS list list.length)) : aS list list.length = bS list list.length := by
  refine perm_sorted_eq ((List.perm_ext_iff_of_nodup (up_nodup h.up) (up_nodup h'.up)).2 fun d => ?_) h.up h'.up
  rw [aS_mem, bS_mem _ _ _ (Nat.le_refl _)]
  constructor
  · rintro ⟨i, h1, h2, h3⟩
    exact ⟨i, by omega, h1, h2, h3⟩
  · rintro ⟨i, _, h1, h2, h3⟩
    exact ⟨i, h1, h2, h3⟩
theorem take_two {S : List Du} {t u : Int} (h : t ≤ u) : S.takeWhile (fun d => decide (d.1 ≤ u)) = S.takeWhile (fun d => decide (d.1 ≤ t)) ++ (S.dropWhile (fun d => decide (d.1 ≤ t))).takeWhile (fun d => decide (d.1 ≤ u)) ∧
    S.dropWhile (fun d => decide (d.1 ≤ u)) = (S.dropWhile (fun d => decide (d.1 ≤ t))).dropWhile (fun d => decide (d.1 ≤ u)) := by
  induction S with
  | nil => exact ⟨rfl, rfl⟩
  | cons d S ih =>
    by_cases h1 : d.1 ≤ t
    · have h2 : d.1 ≤ u := by omega
      simp only [List.takeWhile_cons, List.dropWhile_cons, h1, h2, decide_true, if_true]
      exact ⟨by rw [ih.1]; rfl, ih.2⟩
    · simp only [List.takeWhile_cons (p := fun d : Du => decide (d.1 ≤ t)), List.dropWhile_cons (p := fun d : Du => decide (d.1 ≤ t)), h1, decide_false]
      exact ⟨rfl, rfl⟩
theorem take_le (S : List Du) (t : Int) : ∀ d ∈ S.takeWhile (fun d => decide (d.1 ≤ t)), d.1 ≤ t := by
  induction S with
  | nil => intro d h; cases h
  | cons c S ih =>
    intro d h
    rw [List.takeWhile_cons] at h
    split at h
    · rename_i hc
      rcases List.mem_cons.1 h with rfl | h
      · simpa using hc
      · exact ih d h
    · cases h
/-- What is told, place by place. -/
theorem told_at {list S : List Du} {last : Int} (hm : ∀ d, d ∈ S → ∃ i, i < list.length ∧ isT (gD list i).1 = true ∧ d = ((gD list i).1, (i : Int))) {k : Nat} (hk : k < (S.takeWhile (fun d => decide (d.1 ≤ last))).length) :
    (gD (S.takeWhile (fun d => decide (d.1 ≤ last))) k).1 ≤ last ∧ ∃ i, i < list.length ∧ (gD (S.takeWhile (fun d => decide (d.1 ≤ last))) k).2 = (i : Int) ∧ (gD (S.takeWhile (fun d => decide (d.1 ≤ last))) k).1 = (gD list i).1 := by
  rw [gD_of hk]
  have hmem := List.getElem_mem hk
  obtain ⟨i, h1, _, h3⟩ := hm _ ((List.takeWhile_sublist _).subset hmem)
  have h4 := take_le _ _ _ hmem
  exact ⟨by simpa using h4, i, h1, by rw [h3], by rw [h3]⟩
theorem told_up {S : List Du} (h : S.Pairwise (fun a b => ltD a b = true)) (last : Int) {k : Nat} (hk : k + 1 < (S.takeWhile (fun d => decide (d.1 ≤ last))).length) :
    (gD (S.takeWhile (fun d => decide (d.1 ≤ last))) k).1 < (gD (S.takeWhile (fun d => decide (d.1 ≤ last))) (k + 1)).1 ∨
    ((gD (S.takeWhile (fun d => decide (d.1 ≤ last))) k).1 = (gD (S.takeWhile (fun d => decide (d.1 ≤ last))) (k + 1)).1 ∧ (gD (S.takeWhile (fun d => decide (d.1 ≤ last))) k).2 < (gD (S.takeWhile (fun d => decide (d.1 ≤ last))) (k + 1)).2) := by
  have h1 := h.sublist (List.takeWhile_sublist (fun d => decide (d.1 ≤ last)))
  rw [gD_of hk, gD_of (by omega)]
  exact (ltD_iff _ _).1 (List.pairwise_iff_getElem.1 h1 k (k + 1) (by omega) hk (by omega))
theorem next_late {S : List Du} {last : Int} {d : Du} {S' : List Du} (h : S.dropWhile (fun d => decide (d.1 ≤ last)) = d :: S') : last < d.1 := by
  induction S with
  | nil => cases h
  | cons c S ih =>
    rw [List.dropWhile_cons] at h
    split at h
    · exact ih h
    · rename_i hc
      injection h with h _
      subst h
      simpa using hc
end Go.Proofs.Ytdaicdaakegdmaa
