/- Names, plain: their order, which begin with a text, how much of one is enough. -/
import Derived.Test.YtkidefmkgcankaaTab
import Derived.Lib.Bytealg
import Derived.Lib.Strings
namespace Go.Proofs.Ytkidefmkgcankaa
open Go.Op (bytesLess)

theorem u8_lt_iff (a b : UInt8) : a < b ↔ a.toNat < b.toNat := UInt8.lt_iff_toNat_lt
theorem u8_eq_iff (a b : UInt8) : a = b ↔ a.toNat = b.toNat := ⟨fun h => by rw [h], fun h => UInt8.toNat_inj.1 h⟩
theorem less_cons (a b : UInt8) (x y : List UInt8) : bytesLess (a :: x) (b :: y) = true ↔ a.toNat < b.toNat ∨ (a = b ∧ bytesLess x y = true) := by
  simp [bytesLess, u8_lt_iff]
theorem less_irrefl : ∀ a : List UInt8, bytesLess a a = false
  | [] => rfl
  | a :: x => by
    rw [← Bool.not_eq_true, less_cons]
    rintro (h | ⟨_, h⟩)
    · omega
    · rw [less_irrefl x] at h; simp at h
theorem less_trans : ∀ {a b c : List UInt8}, bytesLess a b = true → bytesLess b c = true → bytesLess a c = true
  | _, [], _, h, _ => by simp [bytesLess] at h
  | _, _ :: _, [], _, h => by simp [bytesLess] at h
  | [], _ :: _, _ :: _, _, _ => rfl
  | a :: x, b :: y, c :: z, h, k => by
    rw [less_cons] at *
    rcases h with h | ⟨rfl, h⟩
    · rcases k with k | ⟨rfl, k⟩
      · left; omega
      · left; exact h
    · rcases k with k | ⟨rfl, k⟩
      · left; exact k
      · right; exact ⟨rfl, less_trans h k⟩
theorem less_total : ∀ {a b : List UInt8}, a ≠ b → bytesLess a b = true ∨ bytesLess b a = true
  | [], [], h => absurd rfl h
  | [], _ :: _, _ => .inl rfl
  | _ :: _, [], _ => .inr rfl
  | a :: x, b :: y, h => by
    rw [less_cons, less_cons]
    rcases Nat.lt_trichotomy a.toNat b.toNat with k | k | k
    · exact .inl (.inl k)
    · obtain rfl := (u8_eq_iff a b).2 k
      rcases less_total (a := x) (b := y) (fun e => h (by rw [e])) with k | k
      · exact .inl (.inr ⟨rfl, k⟩)
      · exact .inr (.inr ⟨rfl, k⟩)
    · exact .inr (.inl k)
theorem less_asymm {a b : List UInt8} (h : bytesLess a b = true) : bytesLess b a = false := by
  rw [← Bool.not_eq_true]; intro k
  have := less_trans h k
  rw [less_irrefl] at this; simp at this
theorem less_append : ∀ (a : List UInt8) (c : UInt8) (r : List UInt8), bytesLess a (a ++ c :: r) = true
  | [], _, _ => rfl
  | a :: x, c, r => by rw [List.cons_append, less_cons]; exact .inr ⟨rfl, less_append x c r⟩
theorem cmp_less : ∀ a b : List UInt8, decide (Lib.compareBytes a b < 0) = bytesLess a b
  | [], [] => rfl
  | [], _ :: _ => rfl
  | _ :: _, [] => rfl
  | a :: x, b :: y => by
    rw [Bool.eq_iff_iff, less_cons, decide_eq_true_iff, Lib.compareBytes]
    have ih := cmp_less x y
    rw [Bool.eq_iff_iff, decide_eq_true_iff] at ih
    by_cases h : a < b
    · rw [if_pos h]
      exact ⟨fun _ => .inl ((u8_lt_iff a b).1 h), fun _ => by decide⟩
    · rw [if_neg h]
      rw [u8_lt_iff] at h
      by_cases h2 : b < a
      · rw [if_pos h2]
        rw [u8_lt_iff] at h2
        refine ⟨fun h => absurd h (by decide), ?_⟩
        rintro (h3 | ⟨rfl, _⟩) <;> omega
      · rw [if_neg h2]
        rw [u8_lt_iff] at h2
        have e : a = b := (u8_eq_iff a b).2 (by omega)
        subst e
        rw [ih]
        exact ⟨fun h => .inr ⟨rfl, h⟩, fun h => by rcases h with h | h; omega; exact h.2⟩

/-- The bytes of the name numbered i. -/
def nmB (l : List ByteArray) (i : Nat) : List UInt8 := (l.getD i ⟨#[]⟩).data.toList
theorem nmB_of {l : List ByteArray} {i : Nat} {s : ByteArray} (h : l[i]? = some s) : nmB l i = s.data.toList := by simp [nmB, h]
theorem nmB_inj {l : List ByteArray} (hn : l.Nodup) {i j : Nat} (hi : i < l.length) (hj : j < l.length) (h : nmB l i = nmB l j) : i = j := by
  rw [nmB_of (List.getElem?_eq_getElem hi), nmB_of (List.getElem?_eq_getElem hj)] at h
  have e := bytes_ext h
  have hp := List.pairwise_iff_getElem.1 hn
  rcases Nat.lt_trichotomy i j with k | k | k
  · exact absurd e (hp i j hi hj k)
  · exact k
  · exact absurd e.symm (hp j i hj hi k)
/-- Which names begin so, in the order of their numbers. -/
def begP (l : List ByteArray) (s : List UInt8) (k : Nat) : List Nat := (List.range k).filter (fun i => Lib.hasPrefix (nmB l i) s)
theorem begP_succ (l : List ByteArray) (s : List UInt8) (k : Nat) : begP l s (k + 1) = begP l s k ++ (if Lib.hasPrefix (nmB l k) s = true then [k] else []) := by
  unfold begP
  rw [List.range_succ, List.filter_append]
  simp [List.filter_cons]
theorem begP_lt {l : List ByteArray} {s : List UInt8} {k i : Nat} (h : i ∈ begP l s k) : i < k ∧ Lib.hasPrefix (nmB l i) s = true := by
  unfold begP at h; rw [List.mem_filter, List.mem_range] at h; exact h
theorem mem_begP {l : List ByteArray} {s : List UInt8} {k i : Nat} (h : i < k) (hp : Lib.hasPrefix (nmB l i) s = true) : i ∈ begP l s k := by
  unfold begP; rw [List.mem_filter, List.mem_range]; exact ⟨h, hp⟩
theorem begP_len (l : List ByteArray) (s : List UInt8) (k : Nat) : (begP l s k).length ≤ k := by
  unfold begP; have := List.length_filter_le (fun i => Lib.hasPrefix (nmB l i) s) (List.range k); simpa using this
theorem begP_nodup (l : List ByteArray) (s : List UInt8) (k : Nat) : (begP l s k).Nodup := by
  unfold begP; exact List.Nodup.sublist List.filter_sublist List.nodup_range
/-- Those in the order of their names. -/
structure BegOf (l : List ByteArray) (s : List UInt8) (r : List Nat) : Prop where
  perm : r.Perm (begP l s l.length)
  up : r.Pairwise (fun i j => bytesLess (nmB l i) (nmB l j) = true)
theorem BegOf.uniq {l : List ByteArray} {s : List UInt8} {r t : List Nat} (h : BegOf l s r) (k : BegOf l s t) : r = t := by
  refine List.Perm.eq_of_pairwise (le := fun i j => bytesLess (nmB l i) (nmB l j) = true) ?_ h.up k.up (h.perm.trans k.perm.symm)
  intro a b _ _ h1 h2
  rw [less_asymm h1] at h2; simp at h2
theorem BegOf.len {l : List ByteArray} {s : List UInt8} {r : List Nat} (h : BegOf l s r) : r.length ≤ l.length := by rw [h.perm.length_eq]; exact begP_len _ _ _
theorem BegOf.lt {l : List ByteArray} {s : List UInt8} {r : List Nat} (h : BegOf l s r) {i : Nat} (hi : i ∈ r) : i < l.length := (begP_lt (h.perm.mem_iff.1 hi)).1
theorem begP_all (l : List ByteArray) (k : Nat) : begP l [] k = List.range k := by
  unfold begP; rw [List.filter_eq_self]; intro i _; simp [Lib.hasPrefix]

/-- How far two texts are alike. -/
def lcpN : List UInt8 → List UInt8 → Nat
  | a :: x, b :: y => if a = b then lcpN x y + 1 else 0
  | _, _ => 0
theorem lcpN_le : ∀ a b : List UInt8, lcpN a b ≤ a.length ∧ lcpN a b ≤ b.length
  | [], _ => by simp [lcpN]
  | _ :: _, [] => by simp [lcpN]
  | a :: x, b :: y => by
    have := lcpN_le x y
    unfold lcpN; split <;> simp <;> omega
theorem lcpN_same : ∀ (a b : List UInt8) (i : Nat), i < lcpN a b → a[i]? = b[i]?
  | [], _, i, h => by simp [lcpN] at h
  | _ :: _, [], i, h => by simp [lcpN] at h
  | a :: x, b :: y, i, h => by
    unfold lcpN at h; split at h
    · rename_i e
      cases i with
      | zero => simp [e]
      | succ i => simpa using lcpN_same x y i (by omega)
    · omega
theorem lcpN_part : ∀ (a b : List UInt8), lcpN a b < a.length → lcpN a b < b.length → a[lcpN a b]? ≠ b[lcpN a b]?
  | [], _, h, _ => by simp at h
  | _ :: _, [], _, h => by simp at h
  | a :: x, b :: y, h, k => by
    unfold lcpN at h k ⊢; split
    · rename_i e
      rw [if_pos e] at h k
      simpa using lcpN_part x y (by simpa using h) (by simpa using k)
    · rename_i e
      simpa using e
theorem pre_lcp : ∀ (a b : List UInt8) (e : Nat), e ≤ a.length → (Lib.hasPrefix b (a.take e) = true ↔ e ≤ lcpN a b)
  | a, b, 0, _ => by simp [Lib.hasPrefix]
  | [], b, e + 1, h => by simp at h
  | a :: x, [], e + 1, _ => by simp [Lib.hasPrefix, lcpN]
  | a :: x, b :: y, e + 1, h => by
    have ih := pre_lcp x y e (by simpa using h)
    unfold Lib.hasPrefix at ih ⊢
    rw [List.take_succ_cons, List.isPrefixOf, Bool.and_eq_true, ih]
    rw [show lcpN (a :: x) (b :: y) = if a = b then lcpN x y + 1 else 0 from rfl]
    by_cases he : a = b
    · subst he; simp
    · rw [if_neg he]; simp [he]
def needN (a b : List UInt8) : Nat := if lcpN a b < a.length then lcpN a b + 1 else a.length
theorem needN_le (a b : List UInt8) : needN a b ≤ a.length := by unfold needN; split <;> omega
/-- How much of a name is enough against the first k. -/
def shN (l : List ByteArray) (n : Nat) : Nat → Nat
  | 0 => 1
  | k + 1 => if k = n then shN l n k else max (shN l n k) (needN (nmB l n) (nmB l k))
theorem shN_succ (l : List ByteArray) (n k : Nat) : shN l n (k + 1) = if k = n then shN l n k else max (shN l n k) (needN (nmB l n) (nmB l k)) := rfl
theorem shN_le {l : List ByteArray} {n : Nat} (h : 1 ≤ (nmB l n).length) : ∀ k, 1 ≤ shN l n k ∧ shN l n k ≤ (nmB l n).length
  | 0 => ⟨Nat.le_refl _, h⟩
  | k + 1 => by
    have := shN_le h k
    have h2 := needN_le (nmB l n) (nmB l k)
    rw [shN_succ]; split
    · exact this
    · omega
theorem shN_need {l : List ByteArray} {n : Nat} : ∀ k m, m < k → m ≠ n → needN (nmB l n) (nmB l m) ≤ shN l n k
  | 0, _, h, _ => by omega
  | k + 1, m, h, hm => by
    rw [shN_succ]
    by_cases e : m = k
    · subst e; rw [if_neg hm]; exact Nat.le_max_right _ _
    · have := shN_need (l := l) k m (by omega) hm
      split
      · exact this
      · exact Nat.le_trans this (Nat.le_max_left _ _)
theorem shN_reach {l : List ByteArray} {n : Nat} : ∀ k, 1 < shN l n k → ∃ m, m < k ∧ m ≠ n ∧ needN (nmB l n) (nmB l m) = shN l n k
  | 0, h => by simp [shN] at h
  | k + 1, h => by
    rw [shN_succ] at h ⊢
    by_cases e : k = n
    · rw [if_pos e] at h ⊢
      obtain ⟨m, h1, h2, h3⟩ := shN_reach k h
      exact ⟨m, by omega, h2, h3⟩
    · rw [if_neg e] at h ⊢
      by_cases e2 : shN l n k < needN (nmB l n) (nmB l k)
      · rw [Nat.max_eq_right (Nat.le_of_lt e2)]
        exact ⟨k, by omega, e, rfl⟩
      · rw [Nat.max_eq_left (by omega)] at h ⊢
        obtain ⟨m, h1, h2, h3⟩ := shN_reach k (by omega)
        exact ⟨m, by omega, h2, by omega⟩

theorem short_alone {l : List ByteArray} {n : Nat} {e : Nat} (he : e = shN l n l.length) (hl : e < (nmB l n).length) (m : Nat) (hm : m < l.length) (hp : Lib.hasPrefix (nmB l m) ((nmB l n).take e) = true) : m = n := by
  by_cases hne : m = n
  · exact hne
  · have h1 := shN_need (l := l) l.length m hm hne
    rw [pre_lcp _ _ _ (by omega)] at hp
    unfold needN at h1; split at h1 <;> omega
theorem pre_self (a : List UInt8) (e : Nat) : Lib.hasPrefix a (a.take e) = true := by
  unfold Lib.hasPrefix; rw [List.isPrefixOf_iff_prefix]; exact List.take_prefix _ _
theorem pre_less {a b : List UInt8} (h : Lib.hasPrefix b a = true) (hne : a ≠ b) : bytesLess a b = true := by
  unfold Lib.hasPrefix at h
  rw [List.isPrefixOf_iff_prefix] at h
  obtain ⟨r, rfl⟩ := h
  cases r with
  | nil => simp at hne
  | cons c r => exact less_append _ _ _
/-- What is found by the short beginning of a name: the name first; others too only where they begin with all of it. -/
theorem short_one {l : List ByteArray} (hn : l.Nodup) {n e : Nat} (hnl : n < l.length) (h1 : 1 ≤ (nmB l n).length) (he : e = shN l n l.length) {r : List Nat} (hr : BegOf l ((nmB l n).take e) r) :
    r[0]? = some n ∧ (1 < r.length → e = (nmB l n).length) := by
  have hb := shN_le h1 l.length
  rw [← he] at hb
  have hmem : n ∈ r := hr.perm.mem_iff.2 (mem_begP hnl (pre_self _ _))
  have hnd : r.Nodup := hr.perm.nodup_iff.2 (begP_nodup _ _ _)
  have hall : ∀ m ∈ r, e < (nmB l n).length → m = n := fun m hm hl => by
    have := begP_lt (hr.perm.mem_iff.1 hm)
    exact short_alone he hl m this.1 this.2
  refine ⟨?_, ?_⟩
  · cases r with
    | nil => simp at hmem
    | cons x r =>
      rcases List.mem_cons.1 hmem with h | h
      · subst h; rfl
      · exfalso
        have hx := begP_lt (hr.perm.mem_iff.1 (List.mem_cons_self (a := x) (l := r)))
        have h2 := (List.pairwise_cons.1 hr.up).1 n h
        by_cases hl : e < (nmB l n).length
        · have := hall x List.mem_cons_self hl
          rw [this, less_irrefl] at h2; simp at h2
        · have e1 : e = (nmB l n).length := by omega
          rw [e1, List.take_length] at hx
          by_cases e2 : nmB l n = nmB l x
          · rw [e2, less_irrefl] at h2; simp at h2
          · rw [less_asymm (pre_less hx.2 e2)] at h2; simp at h2
  · intro hl
    by_cases h : e < (nmB l n).length
    · exfalso
      match r, hl, hnd, hall with
      | a :: b :: r, _, hnd, hall =>
        have ha := hall a (by simp) h
        have hb := hall b (by simp) h
        rw [ha, hb] at hnd
        simp at hnd
    · omega
/-- A byte less is too little. -/
theorem short_two {l : List ByteArray} {n e : Nat} (hnl : n < l.length) (h1 : 1 ≤ (nmB l n).length) (he : e = shN l n l.length) {t : List Nat} (h : 1 < e) (ht : BegOf l ((nmB l n).take (e - 1)) t) : 2 ≤ t.length := by
  have hb := shN_le h1 l.length
  rw [← he] at hb
  obtain ⟨m, hm, hne, hN⟩ := shN_reach l.length (by rw [← he]; exact h)
  rw [← he] at hN
  have hp : Lib.hasPrefix (nmB l m) ((nmB l n).take (e - 1)) = true := by
    rw [pre_lcp _ _ _ (by omega)]
    unfold needN at hN; split at hN <;> omega
  have h3 : m ∈ t := ht.perm.mem_iff.2 (mem_begP hm hp)
  have h4 : n ∈ t := ht.perm.mem_iff.2 (mem_begP hnl (pre_self _ _))
  match t, h3, h4 with
  | [a], h3, h4 =>
    simp at h3 h4
    exact absurd (h3.trans h4.symm) hne
  | a :: b :: t, _, _ => simp
end Go.Proofs.Ytkidefmkgcankaa
