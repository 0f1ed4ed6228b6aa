/- Plain: the document's reading of a text is the program's. -/
import Derived.Test.YtgjeihgkcmheeaaDoorTxt
import Derived.Lib.AtoiTie
import Derived.Lib.ItoaLen
import Derived.Lib.ParseIntBTie
namespace Go.Proofs.YtgjeihgkcmheeaaDoor
open Go.RowKit Go.Shelf

/-- The document's reading. -/
def docP (l : List UInt8) : Int × Int :=
  if l.length = 0 ∨ 13 < l.length ∨ (1 < l.length ∧ l[0]? = some 48) then (0, 121)
  else match Lib.decFrom 0 l with
    | none => (0, 121)
    | some x => if 1099511627776 < x then (0, 121) else (x, 0)
theorem dec_append (l1 l2 : List UInt8) : ∀ acc, Lib.decFrom acc (l1 ++ l2) = (Lib.decFrom acc l1).bind fun a => Lib.decFrom a l2 := by
  induction l1 with
  | nil => intro acc; rfl
  | cons b r ih =>
    intro acc
    simp only [List.cons_append, Lib.decFrom]
    cases Lib.digitVal b with
    | none => rfl
    | some d => exact ih _
theorem digit_byte {d : Nat} (h : d < 10) : Lib.digitVal (UInt8.ofNat (48 + d)) = some d := by
  have e : (UInt8.ofNat (48 + d)).toNat = 48 + d := by
    rw [UInt8.toNat_ofNat']
    exact Nat.mod_eq_of_lt (by omega)
  unfold Lib.digitVal
  rw [e, if_pos (by omega)]
  congr 1
  omega
theorem dec_digits : ∀ u : Nat, Lib.decFrom 0 (Lib.decDigits u) = some u := by
  intro u
  induction u using Nat.strongRecOn with
  | _ u ih =>
    rw [Lib.decDigits]
    by_cases h : u < 10
    · rw [dif_pos h]
      simp only [Lib.decFrom, digit_byte h]
      simp
    · rw [dif_neg h, dec_append, ih (u / 10) (by omega)]
      simp only [Option.bind_some, Lib.decFrom, digit_byte (show u % 10 < 10 by omega)]
      congr 1
      omega
theorem head_digits : ∀ u : Nat, 1 ≤ u → ∀ c, (Lib.decDigits u)[0]? = some c → c ≠ 48 := by
  intro u
  induction u using Nat.strongRecOn with
  | _ u ih =>
    intro h1 c hc
    rw [Lib.decDigits] at hc
    by_cases h : u < 10
    · rw [dif_pos h] at hc
      simp only [List.getElem?_cons_zero, Option.some.injEq] at hc
      intro e
      have := congrArg UInt8.toNat (hc.trans e)
      rw [UInt8.toNat_ofNat', Nat.mod_eq_of_lt (by omega)] at this
      have e2 : (48 : UInt8).toNat = 48 := rfl
      omega
    · rw [dif_neg h] at hc
      have hl : 0 < (Lib.decDigits (u / 10)).length := by
        rw [Lib.decDigits]
        split <;> simp
      rw [List.getElem?_append_left hl] at hc
      exact ih (u / 10) (by omega) (by omega) c hc
theorem len_digits : ∀ (k u : Nat), u < 10 ^ (k + 1) → (Lib.decDigits u).length ≤ k + 1
  | 0, u, h => by
    rw [Lib.decDigits, dif_pos (by simpa using h)]
    simp
  | k + 1, u, h => by
    rw [Lib.decDigits]
    by_cases h1 : u < 10
    · rw [dif_pos h1]; simp
    · rw [dif_neg h1]
      have := len_digits k (u / 10) (by rw [Nat.pow_succ] at h; omega)
      simp
      omega
theorem digit_val {b : UInt8} {d : Nat} (h : Lib.digitVal b = some d) : d < 10 ∧ UInt8.ofNat (48 + d) = b := by
  unfold Lib.digitVal at h
  split at h
  · rename_i hb
    injection h with h
    subst h
    refine ⟨by omega, ?_⟩
    apply UInt8.toNat_inj.1
    rw [UInt8.toNat_ofNat']
    have := b.toNat_lt
    rw [Nat.mod_eq_of_lt (by omega)]
    omega
  · cases h
theorem digits_dec : ∀ (n : Nat) (l : List UInt8), l.length = n + 1 → l[0]? ≠ some 48 → ∀ x, Lib.decFrom 0 l = some x → Lib.decDigits x = l ∧ 1 ≤ x := by
  intro n
  induction n with
  | zero =>
    intro l hl h0 x hx
    match l, hl with
    | [b], _ =>
      simp only [Lib.decFrom] at hx
      cases hd : Lib.digitVal b with
      | none => rw [hd] at hx; cases hx
      | some d =>
        rw [hd] at hx
        obtain ⟨h1, h2⟩ := digit_val hd
        simp only [Nat.zero_mul, Nat.zero_add, Option.some.injEq] at hx
        subst hx
        rw [Lib.decDigits, dif_pos h1, h2]
        refine ⟨rfl, ?_⟩
        rcases Nat.eq_zero_or_pos d with h | h
        · subst h
          exact absurd (by simp [← h2]) h0
        · exact h
  | succ n ih =>
    intro l hl h0 x hx
    have hne : l ≠ [] := fun e => by rw [e] at hl; cases hl
    obtain ⟨r, c, rfl⟩ : ∃ r c, l = r ++ [c] := ⟨l.dropLast, l.getLast hne, (List.dropLast_concat_getLast hne).symm⟩
    have hr : r.length = n + 1 := by simp at hl; omega
    rw [dec_append] at hx
    cases hy : Lib.decFrom 0 r with
    | none => rw [hy] at hx; cases hx
    | some y =>
      rw [hy] at hx
      rw [List.getElem?_append_left (by omega)] at h0
      obtain ⟨h1, h2⟩ := ih r hr h0 y hy
      simp only [Option.bind_some, Lib.decFrom] at hx
      cases hd : Lib.digitVal c with
      | none => rw [hd] at hx; cases hx
      | some d =>
        rw [hd] at hx
        obtain ⟨h3, h4⟩ := digit_val hd
        simp only [Option.some.injEq] at hx
        refine ⟨?_, by omega⟩
        rw [Lib.decDigits, dif_neg (by omega), show x / 10 = y by omega, show x % 10 = d by omega, h1, h4]
theorem textB_data (c : Int) : (textB c).data.toList = Lib.itoa c := by simp [textB]
theorem textB_iff {c : Int} {s : ByteArray} : textB c = s ↔ Lib.itoa c = s.data.toList := by
  constructor
  · rintro rfl
    exact (textB_data c).symm
  · intro h
    unfold textB
    rw [h]
theorem doc_of_coin {c : Int} (h : isC c = true) : docP (Lib.itoa c) = (c, 0) := by
  obtain ⟨h0, h1⟩ := isC_iff.1 h
  obtain ⟨u, rfl⟩ : ∃ u : Nat, c = u := ⟨c.toNat, by omega⟩
  rw [Lib.itoa_nonneg]
  have hl := len_digits 12 u (by have : (10 : Nat) ^ (12 + 1) = 10000000000000 := by decide
                                 omega)
  have hp : 0 < (Lib.decDigits u).length := by
    rw [Lib.decDigits]
    split <;> simp
  unfold docP
  rw [if_neg, dec_digits]
  · simp only
    rw [if_neg (by omega)]
  · rintro (h2 | h2 | ⟨h2, h3⟩)
    · omega
    · omega
    · rcases Nat.eq_zero_or_pos u with h4 | h4
      · subst h4
        rw [Lib.decDigits, dif_pos (by omega)] at h2
        simp at h2
      · exact head_digits u h4 48 h3 rfl
theorem coin_of_doc {l : List UInt8} {x : Int} (h : docP l = (x, 0)) : isC x = true ∧ Lib.itoa x = l := by
  unfold docP at h
  split at h
  · cases h
  · rename_i h1
    split at h
    · cases h
    · rename_i y hy
      split at h
      · cases h
      · rename_i h2
        injection h with h
        subst h
        refine ⟨isC_iff.2 ⟨by omega, by omega⟩, ?_⟩
        rw [Lib.itoa_nonneg]
        by_cases h3 : l[0]? = some 48
        · match l, h1, hy, h3 with
          | [b], h1, hy, h3 =>
            simp only [List.getElem?_cons_zero, Option.some.injEq] at h3
            subst h3
            have : y = 0 := by
              have e : Lib.decFrom 0 [48] = some 0 := by decide
              rw [e] at hy
              injection hy with hy
              exact hy.symm
            subst this
            decide +kernel
          | [], h1, hy, h3 => cases h3
          | a :: b :: r, h1, hy, h3 => exact absurd (.inr (.inr ⟨by simp, h3⟩)) h1
        · exact (digits_dec (l.length - 1) l (by omega) h3 y hy).1
theorem doc_err {l : List UInt8} : (∃ x, docP l = (x, 0)) ∨ docP l = (0, 121) := by
  unfold docP
  split
  · exact .inr rfl
  · split
    · exact .inr rfl
    · split
      · exact .inr rfl
      · exact .inl ⟨_, rfl⟩
theorem parse_itoa {c : Int} (h : isC c = true) : Lib.parseIntB 64 (Lib.itoa c) = .ok c := by
  obtain ⟨h0, h1⟩ := isC_iff.1 h
  obtain ⟨u, rfl⟩ : ∃ u : Nat, c = u := ⟨c.toNat, by omega⟩
  rw [Lib.itoa_nonneg, Lib.parseIntB_64]
  have hl := len_digits 12 u (by have : (10 : Nat) ^ (12 + 1) = 10000000000000 := by decide
                                 omega)
  rw [Lib.atoiAll_short _ (by omega)]
  have hd := dec_digits u
  have hp : 0 < (Lib.decDigits u).length := by
    rw [Lib.decDigits]
    split <;> simp
  generalize Lib.decDigits u = l at *
  match l, hd, hp with
  | [], _, hp => cases hp
  | b :: r, hd, _ =>
    have h2 := Lib.digit_of_decFrom _ _ _ hd 0 b rfl
    obtain ⟨d, h3⟩ := h2
    obtain ⟨h4, h5⟩ := digit_val h3
    have hb : 48 ≤ b.toNat := by
      rw [← h5, UInt8.toNat_ofNat', Nat.mod_eq_of_lt (by omega)]
      omega
    have e45 : (b == 45) = false := by
      rw [beq_eq_false_iff_ne]
      rintro rfl
      exact absurd hb (by decide)
    have e43 : (b == 43) = false := by
      rw [beq_eq_false_iff_ne]
      rintro rfl
      exact absurd hb (by decide)
    simp only [Lib.atoi, e45, e43, Bool.false_eq_true, if_false, Lib.decNat, List.isEmpty_cons, hd, Option.map_some]
    rfl
theorem parse_doc (s : ByteArray) : parseC s = docP s.data.toList := by
  by_cases hE : ∃ v, isC v = true ∧ textB v = s
  · obtain ⟨v, hv, rfl⟩ := hE
    rw [textB_data, doc_of_coin hv]
    unfold parseC
    rw [textB_data, parse_itoa hv]
    simp only
    rw [if_pos ⟨hv, trivial⟩]
  · have h1 : parseC s = (0, 121) := by
      unfold parseC
      split
      · rename_i v hv
        rw [if_neg]
        exact fun h => hE ⟨v, h⟩
      · rfl
    rw [h1]
    rcases doc_err (l := s.data.toList) with ⟨x, h⟩ | h
    · obtain ⟨h2, h3⟩ := coin_of_doc h
      exact absurd ⟨x, h2, textB_iff.2 h3⟩ hE
    · exact h.symm
theorem itoa_inj {c d : Int} (hd : isC d = true) (h : Lib.itoa c = Lib.itoa d) : c = d := by
  obtain ⟨h0, h1⟩ := isC_iff.1 hd
  obtain ⟨u, rfl⟩ : ∃ u : Nat, d = u := ⟨d.toNat, by omega⟩
  rw [Lib.itoa_nonneg] at h
  have hu := dec_digits u
  rw [← h] at hu
  by_cases hc : c < 0
  · obtain ⟨v, rfl⟩ : ∃ v : Nat, c = -(v : Int) := ⟨(-c).toNat, by omega⟩
    rw [Lib.itoa_neg v (by omega)] at hu
    simp [Lib.decFrom, Lib.digitVal] at hu
  · obtain ⟨v, rfl⟩ : ∃ v : Nat, c = v := ⟨c.toNat, by omega⟩
    rw [Lib.itoa_nonneg, dec_digits] at hu
    injection hu with hu
    rw [hu]
/-- The text of a number, read again. -/
theorem parse_text (c : Int) : parseC (textB c) = if isC c = true then (c, 0) else (0, 121) := by
  by_cases hc : isC c = true
  · rw [if_pos hc, parse_doc, textB_data, doc_of_coin hc]
  · rw [if_neg hc]
    unfold parseC
    split
    · rename_i v hv
      rw [if_neg]
      rintro ⟨h1, h2⟩
      have h3 := textB_iff.1 h2
      rw [textB_data] at h3
      exact hc (itoa_inj h1 h3.symm ▸ h1)
    · rfl
theorem textB_size {c : Int} (h0 : -9223372036854775808 ≤ c) (h1 : c ≤ 9223372036854775807) : (textB c).size ≤ 281474976710656 := by
  have := Lib.itoa_length_le c h0 h1
  have e : (textB c).size = (Lib.itoa c).length := by
    rw [← textB_data, ByteArray.size, Array.length_toList]
  omega
end Go.Proofs.YtgjeihgkcmheeaaDoor
