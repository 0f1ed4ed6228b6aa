/- What reads a spelling: plain mathematics on lists of bytes; no program is in sight. -/
import Derived.Test.YtkidefmkgcankaaSpellRef
namespace Go.Proofs.Ytkidefmkgcankaa

def hv (c : Int) : Int := if 48 ≤ c ∧ c ≤ 57 then c - 48 else if 97 ≤ c ∧ c ≤ 102 then c - 87 else -1

theorem hv_hexI {n : Int} (h0 : 0 ≤ n) (h1 : n ≤ 15) : hv (hexI n) = n := by
  unfold hv hexI
  by_cases h : n < 10
  · rw [if_pos h, if_pos (by omega)]; omega
  · rw [if_neg h, if_neg (by omega), if_pos (by omega)]; omega
theorem hv_range (c : Int) : hv c = -1 ∨ (0 ≤ hv c ∧ hv c ≤ 15 ∧ hexI (hv c) = c) := by
  unfold hv hexI
  by_cases h : 48 ≤ c ∧ c ≤ 57
  · rw [if_pos h]; right; refine ⟨by omega, by omega, ?_⟩; rw [if_pos (by omega)]; omega
  · rw [if_neg h]
    by_cases h2 : 97 ≤ c ∧ c ≤ 102
    · rw [if_pos h2]; right; refine ⟨by omega, by omega, ?_⟩; rw [if_neg (by omega)]; omega
    · rw [if_neg h2]; left; rfl
theorem hexI_inj {n m : Int} (hn : 0 ≤ n ∧ n ≤ 15) (hm : 0 ≤ m ∧ m ≤ 15) (h : hexI n = hexI m) : n = m := by
  have := hv_hexI hn.1 hn.2
  rw [h, hv_hexI hm.1 hm.2] at this
  omega

theorem plain_34 : plainB 34 = false := by decide
theorem plain_92 : plainB 92 = false := by decide

theorem spell1_inj {a b : Int} (ha : IsByte a) (hb : IsByte b) {r t : List Int} (h : spell1 a ++ r = spell1 b ++ t) : a = b ∧ r = t := by
  by_cases pa : plainB a = true
  · by_cases pb : plainB b = true
    · rw [spell1_yes pa, spell1_yes pb] at h
      simpa using h
    · rw [spell1_yes pa, spell1_no (by simpa using pb)] at h
      simp only [List.cons_append, List.nil_append, List.cons.injEq] at h
      rw [h.1, plain_92] at pa
      cases pa
  · by_cases pb : plainB b = true
    · rw [spell1_no (by simpa using pa), spell1_yes pb] at h
      simp only [List.cons_append, List.nil_append, List.cons.injEq] at h
      rw [← h.1, plain_92] at pb
      cases pb
    · rw [spell1_no (by simpa using pa), spell1_no (by simpa using pb)] at h
      simp only [List.cons_append, List.nil_append, List.cons.injEq, true_and] at h
      obtain ⟨e1, e2, e3⟩ := h
      obtain ⟨a0, a1⟩ := ha
      obtain ⟨b0, b1⟩ := hb
      have f1 := hexI_inj (n := a / 16) (m := b / 16) ⟨by omega, by omega⟩ ⟨by omega, by omega⟩ e1
      have f2 := hexI_inj (n := a % 16) (m := b % 16) ⟨by omega, by omega⟩ ⟨by omega, by omega⟩ e2
      exact ⟨by omega, e3⟩

theorem spell1_head (a : Int) (r : List Int) : ∃ c l, spell1 a ++ r = c :: l ∧ c ≠ 34 := by
  by_cases pa : plainB a = true
  · refine ⟨a, r, by rw [spell1_yes pa]; rfl, ?_⟩
    rintro rfl
    rw [plain_34] at pa
    cases pa
  · exact ⟨92, _, by rw [spell1_no (by simpa using pa)]; rfl, by decide⟩

theorem spell_split : ∀ (acc x rest : List Int), (∀ n ∈ acc, IsByte n) → (∀ n ∈ x, IsByte n) → spellI acc ++ rest = spellI x ++ [34] → ∃ y, x = acc ++ y ∧ rest = spellI y ++ [34]
  | [], x, rest, _, _, h => ⟨x, rfl, by simpa [spellI] using h⟩
  | a :: acc, [], rest, _, _, h => by
    obtain ⟨c, l, hc, hne⟩ := spell1_head a (spellI acc ++ rest)
    rw [show spellI (a :: acc) ++ rest = spell1 a ++ (spellI acc ++ rest) from by simp [spellI]] at h
    rw [hc] at h
    simp [spellI] at h
    exact (hne h.1).elim
  | a :: acc, b :: x, rest, ha, hx, h => by
    rw [show spellI (a :: acc) ++ rest = spell1 a ++ (spellI acc ++ rest) from by simp [spellI], show spellI (b :: x) ++ [34] = spell1 b ++ (spellI x ++ [34]) from by simp [spellI]] at h
    obtain ⟨rfl, h2⟩ := spell1_inj (ha a (by simp)) (hx b (by simp)) h
    obtain ⟨y, rfl, hy⟩ := spell_split acc x rest (fun n hn => ha n (by simp [hn])) (fun n hn => hx n (by simp [hn])) h2
    exact ⟨y, rfl, hy⟩

def Spelt (s : ByteArray) (x : List Int) : Prop := (∀ n ∈ x, IsByte n) ∧ bytesI s = 34 :: spellI x ++ [34]
def NoSpell (s : ByteArray) : Prop := ∀ x, ¬ Spelt s x

theorem Spelt.uniq {s : ByteArray} {x y : List Int} (hx : Spelt s x) (hy : Spelt s y) : x = y := by
  have h : spellI x ++ [34] = spellI y ++ [34] := by
    have := hx.2.symm.trans hy.2
    simpa using this
  obtain ⟨z, rfl, hz⟩ := spell_split x y [34] hx.1 hy.1 h
  cases z with
  | nil => simp
  | cons c z =>
    obtain ⟨d, l, hd, hne⟩ := spell1_head c (spellI z ++ [34])
    rw [show spellI (c :: z) ++ [34] = spell1 c ++ (spellI z ++ [34]) from by simp [spellI], hd] at hz
    simp at hz
    exact (hne hz.1.symm).elim

/-- k bytes have been read: a quote, and the spelling of acc. -/
structure Pre (s : ByteArray) (acc : List Int) (k : Nat) : Prop where
  two : 2 ≤ s.size
  le : k ≤ s.size - 1
  byte : ∀ n ∈ acc, IsByte n
  eq : bytesI s = 34 :: spellI acc ++ (bytesI s).drop k
  len : k = 1 + (spellI acc).length
  last : (bytesI s)[s.size - 1]? = some 34

theorem Pre.start {s : ByteArray} (h2 : 2 ≤ s.size) (h0 : (bytesI s)[0]? = some 34) (hl : (bytesI s)[s.size - 1]? = some 34) : Pre s [] 1 := by
  refine ⟨h2, by omega, by simp, ?_, by simp [spellI], hl⟩
  have hlen := bytesI_length s
  cases hB : bytesI s with
  | nil => rw [hB] at h0; cases h0
  | cons c l => rw [hB] at h0; simp at h0; subst h0; simp [spellI]

theorem Spelt.ends {s : ByteArray} {x : List Int} (h : Spelt s x) : 2 ≤ s.size ∧ (bytesI s)[0]? = some 34 ∧ (bytesI s)[s.size - 1]? = some 34 := by
  have hlen := bytesI_length s
  have e := h.2
  rw [e] at hlen
  simp at hlen
  refine ⟨by omega, by rw [e]; rfl, ?_⟩
  rw [e, ← hlen]
  show (34 :: spellI x ++ [34])[(spellI x).length + 1]? = some 34
  rw [List.getElem?_append_right (by simp)]
  simp

theorem Pre.done {s : ByteArray} {acc : List Int} {k : Nat} (h : Pre s acc k) (hk : k = s.size - 1) : Spelt s acc := by
  refine ⟨h.byte, ?_⟩
  have hl := h.last
  have hd : (bytesI s).drop k = [34] := by
    have h2 := h.two
    have hlen := bytesI_length s
    have hlt : k < (bytesI s).length := by omega
    rw [List.drop_eq_getElem_cons hlt]
    rw [← hk, List.getElem?_eq_getElem hlt] at hl
    injection hl with hl
    rw [hl, List.drop_of_length_le (by omega)]
  have := h.eq
  rw [hd] at this
  exact this

/-- What stands behind k bytes, of a text that is a spelling. -/
theorem Pre.next {s : ByteArray} {acc x : List Int} {k : Nat} (h : Pre s acc k) (hk : k < s.size - 1) (hx : Spelt s x) : ∃ c r, IsByte c ∧ (bytesI s).drop k = spell1 c ++ r ∧ r ≠ [] := by
  have e := h.eq.symm.trans hx.2
  simp only [List.cons_append, List.cons.injEq, true_and] at e
  obtain ⟨y, rfl, hy⟩ := spell_split acc x _ h.byte hx.1 e
  cases y with
  | nil =>
    have := congrArg List.length hy
    rw [List.length_drop, bytesI_length] at this
    simp [spellI] at this
    omega
  | cons c y =>
    refine ⟨c, spellI y ++ [34], hx.1 c (by simp), ?_, by simp⟩
    rw [hy]
    simp [spellI]

theorem drop_at {l r : List Int} {k j : Nat} {v : Int} (h : l.drop k = r) (hr : r[j]? = some v) : l[k + j]? = some v := by
  rw [← hr, ← h, List.getElem?_drop]

theorem Pre.plain {s : ByteArray} {acc : List Int} {k : Nat} {c : Int} (h : Pre s acc k) (hk : k < s.size - 1) (hc : (bytesI s)[k]? = some c) (hp : plainB c = true) : Pre s (acc ++ [c]) (k + 1) := by
  have hb : IsByte c := bytesI_byte s c (List.mem_of_getElem? hc)
  refine ⟨h.two, by omega, fun n hn => ?_, ?_, ?_, h.last⟩
  · rcases List.mem_append.1 hn with hn | hn
    · exact h.byte n hn
    · simp at hn; subst hn; exact hb
  · have e := h.eq
    have hlt : k < (bytesI s).length := (List.getElem?_eq_some_iff.1 hc).1
    rw [List.drop_eq_getElem_cons hlt, (List.getElem?_eq_some_iff.1 hc).2] at e
    rw [spellI_snoc, spell1_yes hp]
    simpa using e
  · rw [spellI_snoc, spell1_yes hp, List.length_append, h.len]
    simp; omega

theorem Pre.not_plain {s : ByteArray} {acc : List Int} {k : Nat} {c : Int} (h : Pre s acc k) (hk : k < s.size - 1) (hc : (bytesI s)[k]? = some c) (hp : plainB c = false) (hne : c ≠ 92) : NoSpell s := by
  intro x hx
  obtain ⟨d, r, _, hd, _⟩ := h.next hk hx
  by_cases pd : plainB d = true
  · rw [spell1_yes pd] at hd
    have := drop_at (j := 0) hd rfl
    rw [Nat.add_zero, hc] at this
    injection this with this
    rw [this, pd] at hp
    cases hp
  · rw [spell1_no (by simpa using pd)] at hd
    have := drop_at (j := 0) hd rfl
    rw [Nat.add_zero, hc] at this
    injection this with this
    exact hne this

/-- A spelling that goes on with a backslash. -/
theorem Pre.escaped {s : ByteArray} {acc x : List Int} {k : Nat} (h : Pre s acc k) (hk : k < s.size - 1) (hc : (bytesI s)[k]? = some 92) (hx : Spelt s x) :
    k + 4 ≤ s.size - 1 ∧ (bytesI s)[k + 1]? = some 120 ∧ ∃ a b, (bytesI s)[k + 2]? = some a ∧ (bytesI s)[k + 3]? = some b ∧ 0 ≤ hv a ∧ 0 ≤ hv b ∧ plainB (16 * hv a + hv b) = false := by
  obtain ⟨d, r, hd0, hd, hr⟩ := h.next hk hx
  by_cases pd : plainB d = true
  · rw [spell1_yes pd] at hd
    have := drop_at (j := 0) hd rfl
    rw [Nat.add_zero, hc] at this
    injection this with this
    rw [← this, plain_92] at pd
    cases pd
  · have pd' : plainB d = false := by simpa using pd
    rw [spell1_no pd'] at hd
    obtain ⟨d0, d1⟩ := hd0
    have h1 := hv_hexI (n := d / 16) (by omega) (by omega)
    have h2 := hv_hexI (n := d % 16) (by omega) (by omega)
    refine ⟨?_, drop_at (j := 1) hd rfl, _, _, drop_at (j := 2) hd rfl, drop_at (j := 3) hd rfl, by omega, by omega, ?_⟩
    · have := congrArg List.length hd
      rw [List.length_drop, bytesI_length] at this
      cases r with
      | nil => exact (hr rfl).elim
      | cons e r => simp at this; omega
    · rw [h1, h2, show 16 * (d / 16) + d % 16 = d from by omega]
      exact pd'

theorem Pre.code {s : ByteArray} {acc : List Int} {k : Nat} {a b : Int} (h : Pre s acc k) (hk : k + 4 ≤ s.size - 1) (h0 : (bytesI s)[k]? = some 92) (h1 : (bytesI s)[k + 1]? = some 120) (h2 : (bytesI s)[k + 2]? = some a) (h3 : (bytesI s)[k + 3]? = some b)
    (ha : 0 ≤ hv a) (hb : 0 ≤ hv b) (hp : plainB (16 * hv a + hv b) = false) : Pre s (acc ++ [16 * hv a + hv b]) (k + 4) := by
  have ra := hv_range a
  have rb := hv_range b
  have a1 : hv a ≤ 15 ∧ hexI (hv a) = a := by rcases ra with r | r <;> first | omega | exact r.2
  have b1 : hv b ≤ 15 ∧ hexI (hv b) = b := by rcases rb with r | r <;> first | omega | exact r.2
  have hs : spell1 (16 * hv a + hv b) = [92, 120, a, b] := by
    rw [spell1_no hp, show (16 * hv a + hv b) / 16 = hv a from by omega, show (16 * hv a + hv b) % 16 = hv b from by omega, a1.2, b1.2]
  refine ⟨h.two, hk, fun n hn => ?_, ?_, ?_, h.last⟩
  · rcases List.mem_append.1 hn with hn | hn
    · exact h.byte n hn
    · simp at hn; subst hn; exact ⟨by omega, by omega⟩
  · have e := h.eq
    have hd : (bytesI s).drop k = 92 :: 120 :: a :: b :: (bytesI s).drop (k + 4) := by
      have g : ∀ j v, (bytesI s)[j]? = some v → (bytesI s).drop j = v :: (bytesI s).drop (j + 1) := fun j v hj => by
        rw [List.drop_eq_getElem_cons (List.getElem?_eq_some_iff.1 hj).1, (List.getElem?_eq_some_iff.1 hj).2]
      rw [g k _ h0, g (k + 1) _ h1, g (k + 2) _ h2, g (k + 3) _ h3]
    rw [hd] at e
    rw [spellI_snoc, hs]
    simpa using e
  · rw [spellI_snoc, hs, List.length_append, h.len]
    simp; omega

end Go.Proofs.Ytkidefmkgcankaa
