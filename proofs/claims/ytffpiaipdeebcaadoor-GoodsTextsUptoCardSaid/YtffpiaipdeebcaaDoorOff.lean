/- Offers, and the lists of many buyers' offers, as they stand in memory; sets of goods as numbers. No program is named. -/
import Derived.Test.YtffpiaipdeebcaaDoorBase
import Derived.Laws.BitsAllLaws
import Derived.Laws.BitsLemmas
namespace Go.Proofs.YtffpiaipdeebcaaDoor
open Go.RowKit

/-! ### Elements of two cells -/
def cells2 {α : Type} (f : α → Value × Value) (l : List α) : List Value := l.flatMap fun x => [(f x).1, (f x).2]
section
variable {α : Type} {f : α → Value × Value}
theorem cells2_cons (x : α) (l : List α) : cells2 f (x :: l) = (f x).1 :: (f x).2 :: cells2 f l := rfl
theorem cells2_nil : cells2 f ([] : List α) = [] := rfl
theorem cells2_append (l m : List α) : cells2 f (l ++ m) = cells2 f l ++ cells2 f m := by simp [cells2]
theorem cells2_length (l : List α) : (cells2 f l).length = l.length * 2 := by
  induction l with
  | nil => rfl
  | cons b l ih => rw [cells2_cons]; simp only [List.length_cons, ih]; omega
theorem cells2_at : ∀ (l : List α) (k : Nat) (b : α), l[k]? = some b → (cells2 f l)[k * 2]? = some (f b).1 ∧ (cells2 f l)[k * 2 + 1]? = some (f b).2
  | [], k, b, h => by simp at h
  | a :: l, 0, b, h => by simp at h; subst h; exact ⟨rfl, rfl⟩
  | a :: l, k + 1, b, h => by
    have := cells2_at l k b (by simpa using h)
    rw [cells2_cons, show (k + 1) * 2 = k * 2 + 1 + 1 from by omega, show k * 2 + 1 + 1 + 1 = (k * 2 + 1) + 1 + 1 from by omega]
    simpa using this
theorem cells2_take (l : List α) (k : Nat) : (cells2 f l).take (k * 2) = cells2 f (l.take k) := by
  induction l generalizing k with
  | nil => simp [cells2]
  | cons b l ih =>
    cases k with
    | zero => simp [cells2]
    | succ k =>
      rw [cells2_cons, List.take_succ_cons, cells2_cons, show (k + 1) * 2 = k * 2 + 1 + 1 from by omega]
      simp [ih]
theorem cells2_drop (l : List α) (k : Nat) : (cells2 f l).drop (k * 2) = cells2 f (l.drop k) := by
  induction l generalizing k with
  | nil => simp [cells2]
  | cons b l ih =>
    cases k with
    | zero => simp
    | succ k =>
      rw [cells2_cons, show (k + 1) * 2 = k * 2 + 1 + 1 from by omega]
      simp [ih]
theorem cells2_set (l : List α) (k : Nat) (y : α) (h : k < l.length) : ((cells2 f l).set (k * 2) (f y).1).set (k * 2 + 1) (f y).2 = cells2 f (l.set k y) := by
  induction l generalizing k with
  | nil => simp at h
  | cons b l ih =>
    cases k with
    | zero => rfl
    | succ k =>
      rw [cells2_cons, List.set_cons_succ, cells2_cons, show (k + 1) * 2 = k * 2 + 1 + 1 from by omega, show k * 2 + 1 + 1 + 1 = (k * 2 + 1) + 1 + 1 from by omega]
      simp [ih k (by simpa using h)]
theorem cells2_one (h1 : ∀ x, (f x).1.oneCell' = true) (h2 : ∀ x, (f x).2.oneCell' = true) (l : List α) : ∀ u ∈ cells2 f l, u.oneCell' = true := by
  intro u hu
  obtain ⟨x, _, hx⟩ := List.mem_flatMap.1 hu
  simp at hx
  rcases hx with rfl | rfl
  · exact h1 x
  · exact h2 x

/-- A slice of two-cell elements reads as a list. -/
def Two (f : α → Value × Value) (w : World) (B : Nat) (A : Option Addr) (l : List α) : Prop := Reads w B 2 A l.length (cells2 f l)
variable {w w' : World} {B B' : Nat} {A : Option Addr} {l : List α}
theorem Two.at_ (h : Two f w B A l) (hn : 0 < l.length) :
    ∃ b o, A = some ⟨b, o, none⟩ ∧ b < B ∧ ∀ (k : Nat) (x : α), l[k]? = some x → w.cell? ⟨b, o + k * 2, none⟩ = some (f x).1 ∧ w.cell? ⟨b, o + k * 2 + 1, none⟩ = some (f x).2 := by
  obtain ⟨b, o, e, hb, hc⟩ := h.2 hn
  refine ⟨b, o, e, hb, fun k x hx => ?_⟩
  obtain ⟨h1, h2⟩ := cells2_at l k x hx
  exact ⟨hc _ _ h1, by rw [Nat.add_assoc]; exact hc _ _ h2⟩
theorem Two.keep (h : Two f w B A l) (hk : ∀ p : Addr, p.block < B → w'.cell? p = w.cell? p) : Two f w' B A l := Reads.keep h hk
theorem Two.more (h : Two f w B A l) (hB : B ≤ B') : Two f w B' A l := Reads.more h hB
theorem Two.below (h : Two f w B A l) (hb : Below B w w') : Two f w' B A l := Reads.below h hb
theorem Two.drewN (h : Two f w B A l) (k : Nat) : Two f (w.drewN k) B A l := h
theorem Two.up (h : Two f w w.heap.size A l) (hb : Below w.heap.size w w') : Two f w' w'.heap.size A l := (h.below hb).more hb.size
theorem Two.none_ (w : World) (B : Nat) : Two f w B none [] := Reads.none_ w B 2
theorem Two.of_own {base n : Nat} {e : TypeId} {c : Nat} (h : w.ownsRow base e 2 (.slice A n c) n (cells2 f l)) (hn : l.length = n) : Two f w w.heap.size A l := by
  unfold Two
  rw [hn]
  exact Reads.of_own h
theorem Two.cut (h : Two f w B A l) {k cap : Nat} (hk : k ≤ l.length) (hc : l.length ≤ cap) : Two f w B (if cap = k then A else A.map (·.add (k * 2))) (l.drop k) := by
  have := Reads.cut h hk hc
  rw [cells2_drop] at this
  unfold Two
  rw [List.length_drop]
  exact this
theorem Two.front (h : Two f w B A l) {k : Nat} (hk : k ≤ l.length) : Two f w B A (l.take k) := by
  have := Reads.front h hk
  rw [cells2_take] at this
  unfold Two
  rw [List.length_take, Nat.min_eq_left hk]
  exact this
end

/-! ### Elements of one cell -/
def One {α : Type} (f : α → Value) (w : World) (B : Nat) (A : Option Addr) (l : List α) : Prop := Reads w B 1 A l.length (l.map f)
section
variable {α : Type} {f : α → Value} {w w' : World} {B B' : Nat} {A : Option Addr} {l : List α}
theorem One.at_ (h : One f w B A l) (hn : 0 < l.length) : ∃ b o, A = some ⟨b, o, none⟩ ∧ b < B ∧ ∀ (k : Nat) (x : α), l[k]? = some x → w.cell? ⟨b, o + k, none⟩ = some (f x) := by
  obtain ⟨b, o, e, hb, hc⟩ := h.2 hn
  exact ⟨b, o, e, hb, fun k x hx => hc _ _ (by rw [List.getElem?_map, hx]; rfl)⟩
theorem One.keep (h : One f w B A l) (hk : ∀ p : Addr, p.block < B → w'.cell? p = w.cell? p) : One f w' B A l := Reads.keep h hk
theorem One.more (h : One f w B A l) (hB : B ≤ B') : One f w B' A l := Reads.more h hB
theorem One.below (h : One f w B A l) (hb : Below B w w') : One f w' B A l := Reads.below h hb
theorem One.drewN (h : One f w B A l) (k : Nat) : One f (w.drewN k) B A l := h
theorem One.up (h : One f w w.heap.size A l) (hb : Below w.heap.size w w') : One f w' w'.heap.size A l := (h.below hb).more hb.size
theorem One.none_ (w : World) (B : Nat) : One f w B none [] := Reads.none_ w B 1
theorem One.of_own {base n : Nat} {e : TypeId} {c : Nat} (h : w.ownsRow base e 1 (.slice A n c) n (l.map f)) (hn : l.length = n) : One f w w.heap.size A l := by
  unfold One
  rw [hn]
  exact Reads.of_own h
end
abbrev intV (z : Int) : Value := .int .i64 z

/-! ### Offers -/
abbrev Offer := Nat × Int
def offV (o : Offer) : Value × Value := (.int .u32 (o.1 : Int), .int .i64 o.2)
abbrev Offs (w : World) (B : Nat) (A : Option Addr) (l : List Offer) : Prop := Two offV w B A l
theorem off_one (l : List Offer) : ∀ u ∈ cells2 offV l, u.oneCell' = true := cells2_one (fun _ => rfl) (fun _ => rfl) l
def OWide (l : List Offer) : Prop := ∀ o ∈ l, o.1 < 4294967296 ∧ -9223372036854775808 ≤ o.2 ∧ o.2 ≤ 9223372036854775807
theorem Offs.at_ {w : World} {B : Nat} {A : Option Addr} {l : List Offer} (h : Offs w B A l) (hn : 0 < l.length) :
    ∃ b o, A = some ⟨b, o, none⟩ ∧ b < B ∧ ∀ (k : Nat) (x : Offer), l[k]? = some x → w.cell? ⟨b, o + k * 2, none⟩ = some (.int .u32 (x.1 : Int)) ∧ w.cell? ⟨b, o + k * 2 + 1, none⟩ = some (.int .i64 x.2) := Two.at_ h hn

/-! ### Buyers: a slice of slices of offers -/
abbrev Hdr := Option Addr × Nat
def hdrV (h : Hdr) (l : List Offer) : Value := .slice h.1 l.length h.2
structure Buys (w : World) (B : Nat) (A : Option Addr) (hs : List Hdr) (ls : List (List Offer)) : Prop where
  len : hs.length = ls.length
  hdr : Reads w B 1 A ls.length (List.zipWith hdrV hs ls)
  row : ∀ (i : Nat) (h : Hdr) (l : List Offer), hs[i]? = some h → ls[i]? = some l → Offs w B h.1 l ∧ l.length ≤ h.2
section
variable {w w' : World} {B B' : Nat} {A : Option Addr} {hs : List Hdr} {ls : List (List Offer)}
theorem Buys.at_ (h : Buys w B A hs ls) (hn : 0 < ls.length) :
    ∃ b o, A = some ⟨b, o, none⟩ ∧ b < B ∧ ∀ (i : Nat) (a : Hdr) (l : List Offer), hs[i]? = some a → ls[i]? = some l → w.cell? ⟨b, o + i, none⟩ = some (.slice a.1 l.length a.2) := by
  obtain ⟨b, o, e, hb, hc⟩ := h.hdr.2 hn
  exact ⟨b, o, e, hb, fun i a l ha hl => hc _ _ (by rw [List.getElem?_zipWith, ha, hl]; rfl)⟩
theorem Buys.get (h : Buys w B A hs ls) {i : Nat} (hi : i < ls.length) : ∃ a l, hs[i]? = some a ∧ ls[i]? = some l ∧ Offs w B a.1 l ∧ l.length ≤ a.2 := by
  have h1 : hs[i]? = some (hs[i]'(by rw [h.len]; exact hi)) := List.getElem?_eq_getElem _
  have h2 : ls[i]? = some ls[i] := List.getElem?_eq_getElem hi
  exact ⟨_, _, h1, h2, h.row i _ _ h1 h2⟩
theorem Buys.keep (h : Buys w B A hs ls) (hk : ∀ p : Addr, p.block < B → w'.cell? p = w.cell? p) : Buys w' B A hs ls :=
  ⟨h.len, h.hdr.keep hk, fun i a l ha hl => ⟨(h.row i a l ha hl).1.keep hk, (h.row i a l ha hl).2⟩⟩
theorem Buys.more (h : Buys w B A hs ls) (hB : B ≤ B') : Buys w B' A hs ls :=
  ⟨h.len, h.hdr.more hB, fun i a l ha hl => ⟨(h.row i a l ha hl).1.more hB, (h.row i a l ha hl).2⟩⟩
theorem Buys.below (h : Buys w B A hs ls) (hb : Below B w w') : Buys w' B A hs ls := h.keep fun _ hp => hb.cell hp
theorem Buys.up (h : Buys w w.heap.size A hs ls) (hb : Below w.heap.size w w') : Buys w' w'.heap.size A hs ls := (h.below hb).more hb.size
theorem Buys.none_ (w : World) (B : Nat) : Buys w B none [] [] := ⟨rfl, Reads.none_ _ _ _, fun i a l ha _ => by simp at ha⟩
end
def BWide (ls : List (List Offer)) : Prop := ∀ l ∈ ls, OWide l
abbrev instV (g : Int) (A : Option Addr) (n c : Nat) : Value := .agg #[.int .i64 g, .slice A n c]

/-! ### Sets as numbers -/
def lessG (a b : Nat) : Nat := a &&& (4294967295 - b)
def withinB (a b : Nat) : Bool := lessG a b == 0
theorem andNot_lessG (a b : Nat) (ha : a < 4294967296) (hb : b < 4294967296) : bits .andNot .u32 (a : Int) (b : Int) = (lessG a b : Int) := u32_andNot_nat a b ha hb
theorem compl_bit (b i : Nat) (hb : b < 4294967296) : (4294967295 - b).testBit i = (decide (i < 32) && !b.testBit i) := by
  have := Nat.testBit_two_pow_sub_succ (x := b) (n := 32) (by omega) i
  rw [show 4294967295 - b = 2 ^ 32 - (b + 1) from by omega]
  exact this
theorem lessG_bit (a b i : Nat) (ha : a < 4294967296) (hb : b < 4294967296) : (lessG a b).testBit i = (a.testBit i && !b.testBit i) := by
  unfold lessG
  rw [Nat.testBit_and, compl_bit b i hb]
  by_cases hi : i < 32
  · simp [hi]
  · have : a.testBit i = false := Nat.testBit_lt_two_pow (Nat.lt_of_lt_of_le ha (by rw [show 4294967296 = 2 ^ 32 from rfl]; exact Nat.pow_le_pow_right (by omega) (by omega)))
    simp [this]
theorem lessG_lt (a b : Nat) (ha : a < 4294967296) : lessG a b < 4294967296 := Nat.lt_of_le_of_lt Nat.and_le_left ha
theorem withinB_iff (a b : Nat) (ha : a < 4294967296) (hb : b < 4294967296) : withinB a b = true ↔ ∀ i, a.testBit i = true → b.testBit i = true := by
  unfold withinB
  rw [beq_iff_eq]
  constructor
  · intro h i hi
    have := lessG_bit a b i ha hb
    rw [h, Nat.zero_testBit, hi] at this
    simpa using this.symm
  · intro h
    apply Nat.eq_of_testBit_eq
    intro i
    rw [Nat.zero_testBit, lessG_bit a b i ha hb]
    by_cases hi : a.testBit i = true
    · simp [h i hi]
    · simp [hi]
theorem and_eq_iff (a b : Nat) : a &&& b = a ↔ ∀ i, a.testBit i = true → b.testBit i = true := by
  constructor
  · intro h i hi
    have := congrArg (fun n => n.testBit i) h
    simp only [Nat.testBit_and, hi, Bool.true_and] at this
    exact this
  · intro h
    apply Nat.eq_of_testBit_eq
    intro i
    rw [Nat.testBit_and]
    by_cases hi : a.testBit i = true
    · simp [h i hi]
    · simp [hi]
theorem withinB_and (a b : Nat) (ha : a < 4294967296) (hb : b < 4294967296) : withinB a b = (a &&& b == a) := by
  rw [Bool.eq_iff_iff, withinB_iff a b ha hb, beq_iff_eq, and_eq_iff]
theorem within_le (a b : Nat) (h : a &&& b = a) : a ≤ b := by
  have := Nat.and_le_right (n := a) (m := b)
  omega
/-- What is left of b when a, which is within it, is taken out. -/
theorem lessG_sub (a b : Nat) (ha : a < 4294967296) (hb : b < 4294967296) (h : a &&& b = a) : lessG b a = b - a := by
  have h1 : lessG b a + a = b := by
    have hd : lessG b a &&& a = 0 := by
      apply Nat.eq_of_testBit_eq
      intro i
      rw [Nat.testBit_and, lessG_bit b a i hb ha, Nat.zero_testBit]
      cases a.testBit i <;> simp
    have ho : lessG b a ||| a = b := by
      apply Nat.eq_of_testBit_eq
      intro i
      rw [Nat.testBit_or, lessG_bit b a i hb ha]
      have := (and_eq_iff a b).1 h i
      cases hai : a.testBit i <;> cases hbi : b.testBit i <;> simp_all
    have hx : (lessG b a) < 4294967296 := lessG_lt b a hb
    have hv : BitVec.ofNat 32 (lessG b a) &&& BitVec.ofNat 32 a = 0#32 := by
      apply BitVec.eq_of_toNat_eq
      rw [BitVec.toNat_and, BitVec.toNat_ofNat, BitVec.toNat_ofNat, Nat.mod_eq_of_lt hx, Nat.mod_eq_of_lt ha, hd]
      rfl
    have := congrArg BitVec.toNat (BitVec.add_eq_or_of_and_eq_zero _ _ hv)
    rw [BitVec.toNat_add, BitVec.toNat_or, BitVec.toNat_ofNat, BitVec.toNat_ofNat, Nat.mod_eq_of_lt hx, Nat.mod_eq_of_lt ha, ho] at this
    have h2 : lessG b a ≤ b := Nat.and_le_left
    have h3 := within_le a b h
    omega
  omega
/-- The first n goods. -/
def allG (n : Nat) : Nat := 2 ^ n - 1
theorem allG_lt (n : Nat) (h : n ≤ 32) : allG n < 4294967296 := by
  unfold allG
  have h1 := Nat.pow_le_pow_right (n := 2) (by omega) h
  have h2 := Nat.one_le_two_pow (n := n)
  have h3 : 2 ^ 32 = 4294967296 := rfl
  omega
theorem allG_bit (n i : Nat) : (allG n).testBit i = decide (i < n) := Nat.testBit_two_pow_sub_one n i
theorem within_all (a n : Nat) (ha : a < 4294967296) (hn : n ≤ 32) : withinB a (allG n) = decide (a < 2 ^ n) := by
  rw [Bool.eq_iff_iff, withinB_iff a _ ha (allG_lt n hn), decide_eq_true_iff]
  constructor
  · intro h
    exact Nat.lt_pow_two_of_testBit a (fun i hi => by
      rcases hb : a.testBit i with _ | _
      · rfl
      · have := h i hb
        rw [allG_bit] at this
        simp at this
        omega)
  · intro h i hi
    rw [allG_bit]
    rcases Nat.lt_or_ge i n with h1 | h1
    · simp [h1]
    · have := Nat.testBit_lt_two_pow (i := i) (Nat.lt_of_lt_of_le h (Nat.pow_le_pow_right (by omega) h1))
      rw [this] at hi
      cases hi

/-! ### The first place at which something holds -/
def idxTo {α : Type} (p : α → Bool) (l : List α) : Int := match l.findIdx? p with
  | some i => i
  | none => -1
section
variable {α : Type} {p : α → Bool} {l : List α}
theorem idxTo_hit {k : Nat} {x : α} (hx : l[k]? = some x) (hp : p x = true) (hno : ∀ j y, j < k → l[j]? = some y → p y = false) : idxTo p l = k := by
  have : l.findIdx? p = some k := by
    rw [List.findIdx?_eq_some_iff_getElem]
    obtain ⟨hk, rfl⟩ := List.getElem?_eq_some_iff.1 hx
    exact ⟨hk, hp, fun j hj => by simp [hno j l[j] hj (List.getElem?_eq_getElem (by omega))]⟩
  unfold idxTo
  rw [this]
theorem idxTo_miss (hno : ∀ (j : Nat) y, j < l.length → l[j]? = some y → p y = false) : idxTo p l = -1 := by
  have : l.findIdx? p = none := by
    rw [List.findIdx?_eq_none_iff]
    intro x hx
    obtain ⟨j, hj, rfl⟩ := List.getElem_of_mem hx
    exact hno j _ hj (List.getElem?_eq_getElem hj)
  unfold idxTo
  rw [this]
theorem idxTo_bd : -1 ≤ idxTo p l ∧ idxTo p l < l.length ∨ idxTo p l = -1 := by
  unfold idxTo
  cases h : l.findIdx? p with
  | none => exact .inr rfl
  | some i =>
    rw [List.findIdx?_eq_some_iff_getElem] at h
    obtain ⟨hi, _⟩ := h
    exact .inl ⟨by simp only; omega, by simp only; omega⟩
theorem idxTo_any : decide (0 ≤ idxTo p l) = l.any p := by
  unfold idxTo
  cases h : l.findIdx? p with
  | none =>
    rw [List.findIdx?_eq_none_iff] at h
    have : l.any p = false := by
      rw [List.any_eq_false]
      intro x hx
      simp [h x hx]
    rw [this]
    rfl
  | some i =>
    rw [List.findIdx?_eq_some_iff_getElem] at h
    obtain ⟨hi, hp, _⟩ := h
    have : l.any p = true := List.any_eq_true.2 ⟨_, List.getElem_mem hi, hp⟩
    rw [this]
    simp
end
/-- How a search goes on behind one more that does not hold. -/
theorem no_next {α : Type} {p : α → Bool} {l : List α} {k : Nat} {x : α} (hno : ∀ j y, j < k → l[j]? = some y → p y = false) (hx : l[k]? = some x) (hp : p x = false) : ∀ j y, j < k + 1 → l[j]? = some y → p y = false := by
  intro j y hj hy
  rcases Nat.lt_or_ge j k with h1 | h1
  · exact hno j y h1 hy
  · obtain rfl : j = k := by omega
    rw [hx] at hy
    injection hy with hy
    rw [← hy]
    exact hp

/-! ### May an offer be, a list, an instance? -/
def badO (all : Nat) (o : Offer) : Bool := o.1 == 0 || !withinB o.1 all || decide (o.2 < 1) || decide (1099511627776 < o.2)
def checkO (n : Int) (l : List Offer) : Int × Int :=
  if n < 1 ∨ 10 < n then (0, 2) else if 8 < l.length then (0, 3) else if 0 ≤ idxTo (badO (allG n.toNat)) l then (idxTo (badO (allG n.toNat)) l, 180) else (0, 0)
def instTo (n : Int) : List (List Offer) → Int
  | [] => 0
  | l :: ls => if (checkO n l).2 ≠ 0 then (checkO n l).2 else instTo n ls
def longB (l : List Offer) : Bool := decide (8 < l.length)
def instE (n : Int) (ls : List (List Offer)) : Int :=
  if n < 1 ∨ 10 < n then 2 else if 32 < ls.length ∨ ls.any longB = true then 3 else instTo n ls
end Go.Proofs.YtffpiaipdeebcaaDoor
