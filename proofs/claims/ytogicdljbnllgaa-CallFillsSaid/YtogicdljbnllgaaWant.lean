/- Wants in memory; the walks of call.Check, with its closure, and of the library's functions that it calls, at wants. -/
import Derived.Test.YtogicdljbnllgaaRows
import Derived.Test.YtogicdljbnllgaaBase
import Derived.Outline
import Derived.BigQuiet
import Derived.Deep.RegionLaw
import Derived.Deep.RegionHeld3
import Derived.Deep.CutRange
import Derived.Maps.AppendAt
namespace Go.Proofs.Ytogicdljbnllgaa
open Go.RowKit

/-- Wants as they stand in memory: coins, a count. -/
def flat (l : List (Int × Int)) : List Value := l.flatMap fun b => [.int .i64 b.1, .int .i64 b.2]
theorem flat_len (l : List (Int × Int)) : (flat l).length = l.length * 2 := by
  induction l with
  | nil => rfl
  | cons b l ih => simp only [flat, List.flatMap_cons, List.length_append, List.length_cons, List.length_nil] at ih ⊢; omega
theorem flat_at : ∀ (l : List (Int × Int)) (k : Nat) (b : Int × Int), l[k]? = some b → (flat l)[k * 2]? = some (.int .i64 b.1) ∧ (flat l)[k * 2 + 1]? = some (.int .i64 b.2)
  | [], k, b, h => by simp at h
  | a :: l, 0, b, h => by simp at h; subst h; exact ⟨rfl, rfl⟩
  | a :: l, k + 1, b, h => by
    have := flat_at l k b (by simpa using h)
    have e : flat (a :: l) = .int .i64 a.1 :: .int .i64 a.2 :: flat l := rfl
    rw [e]
    rw [show (k + 1) * 2 = k * 2 + 1 + 1 from by omega, show k * 2 + 1 + 1 + 1 = (k * 2 + 1) + 1 + 1 from by omega]
    simpa using this
theorem flat_append (l m : List (Int × Int)) : flat (l ++ m) = flat l ++ flat m := by simp [flat]
theorem flat_take (l : List (Int × Int)) (k : Nat) : (flat l).take (k * 2) = flat (l.take k) := by
  induction l generalizing k with
  | nil => simp [flat]
  | cons b l ih =>
    cases k with
    | zero => simp [flat]
    | succ k =>
      have e : flat (b :: l) = .int .i64 b.1 :: .int .i64 b.2 :: flat l := rfl
      have e2 : flat ((b :: l).take (k + 1)) = .int .i64 b.1 :: .int .i64 b.2 :: flat (l.take k) := rfl
      rw [e, e2, show (k + 1) * 2 = k * 2 + 1 + 1 from by omega]
      simp [ih]
theorem flat_drop (l : List (Int × Int)) (k : Nat) : (flat l).drop (k * 2) = flat (l.drop k) := by
  induction l generalizing k with
  | nil => simp [flat]
  | cons b l ih =>
    cases k with
    | zero => simp
    | succ k =>
      have e : flat (b :: l) = .int .i64 b.1 :: .int .i64 b.2 :: flat l := rfl
      rw [e, show (k + 1) * 2 = k * 2 + 1 + 1 from by omega]
      simp [ih]

def Wants (w : World) (B : Nat) (A : Option Addr) (l : List (Int × Int)) : Prop := Reads w B 2 A l.length (flat l)
theorem Wants.at_ {w : World} {B : Nat} {A : Option Addr} {l : List (Int × Int)} (h : Wants w B A l) (hn : 0 < l.length) :
    ∃ b o, A = some ⟨b, o, none⟩ ∧ b < B ∧ ∀ (k : Nat) (x : Int × Int), l[k]? = some x → w.cell? ⟨b, o + k * 2, none⟩ = some (.int .i64 x.1) ∧ w.cell? ⟨b, o + k * 2 + 1, none⟩ = some (.int .i64 x.2) := by
  obtain ⟨b, o, e, hb, hc⟩ := h.2 hn
  refine ⟨b, o, e, hb, fun k x hx => ?_⟩
  obtain ⟨h1, h2⟩ := flat_at l k x hx
  exact ⟨hc _ _ h1, by rw [Nat.add_assoc]; exact hc _ _ h2⟩


def ValPost (v : Value) (w : World) (e : Ending) (w' : World) : Prop := e = .returned v ∧ Below w.heap.size w w'
def IntPost (n : Int) (w : World) (e : Ending) (w' : World) : Prop := e = .returned (.int .i64 n) ∧ Below w.heap.size w w'
def StayPost (v : Value) (w : World) (e : Ending) (w' : World) : Prop := e = .returned v ∧ w = w'
abbrev wantV (x : Int × Int) : Value := .agg #[.int .i64 x.1, .int .i64 x.2]
/-- Wants of numbers that fit. -/
def WideW (l : List (Int × Int)) : Prop := ∀ x ∈ l, (-9223372036854775808 ≤ x.1 ∧ x.1 ≤ 9223372036854775807) ∧ -9223372036854775808 ≤ x.2 ∧ x.2 ≤ 9223372036854775807

def badW (x : Int × Int) : Bool := decide (x.1 < 0) || decide (1099511627776 < x.1) || decide (x.2 < 1) || decide (64 < x.2)
set_option maxRecDepth 100000 in
set_option maxHeartbeats 1000000 in
theorem bad_any (x : Int × Int) (w : World) : Calls Try.prog 34 #[wantV x] w (ValPost (.bool (badW x)) w) := by
  obtain ⟨x1, x2⟩ := x
  have hB : Below w.heap.size w (w.alloc (.cells #[.int .i64 x1, .int .i64 x2] 51)) := (Below.refl _ _).alloc (Nat.le_refl _) _
  unfold badW
  by_cases h1 : x1 < 0
  · simp only [h1, decide_true, Bool.true_or]
    go_enter Try.func34, Try.ntmps34
    go_wp2_with fail
    go_ret
    exact ⟨rfl, hB⟩
  · have e1 : decide (x1 < 0) = false := decide_eq_false h1
    by_cases h2 : 1099511627776 < x1
    · simp only [e1, h2, decide_true, Bool.true_or, Bool.or_true]
      go_enter Try.func34, Try.ntmps34
      go_wp2_with fail
      go_ret
      exact ⟨rfl, hB⟩
    · have e2 : decide (1099511627776 < x1) = false := decide_eq_false h2
      by_cases h3 : x2 < 1
      · simp only [e1, e2, h3, decide_true, Bool.true_or, Bool.or_true]
        go_enter Try.func34, Try.ntmps34
        go_wp2_with fail
        go_ret
        exact ⟨rfl, hB⟩
      · have e3 : decide (x2 < 1) = false := decide_eq_false h3
        simp only [e1, e2, e3, Bool.false_or]
        generalize he4 : decide (64 < x2) = b4
        go_enter Try.func34, Try.ntmps34
        go_wp2_with fail
        go_ret
        exact ⟨rfl, hB⟩

def idxTo (p : Int × Int → Bool) (l : List (Int × Int)) : Int := match l.findIdx? p with
  | some i => i
  | none => -1
theorem idxTo_hit {p : Int × Int → Bool} {l : List (Int × Int)} {k : Nat} {x : Int × Int} (hx : l[k]? = some x) (hp : p x = true) (hno : ∀ j y, j < k → l[j]? = some y → p y = false) : idxTo p l = k := by
  have : l.findIdx? p = some k := by
    rw [List.findIdx?_eq_some_iff_getElem]
    obtain ⟨hk, rfl⟩ := List.getElem?_eq_some_iff.1 hx
    exact ⟨hk, hp, fun j hj => by simp [hno j l[j] hj (List.getElem?_eq_getElem (by omega))]⟩
  unfold idxTo
  rw [this]
theorem idxTo_miss {p : Int × Int → Bool} {l : List (Int × Int)} (hno : ∀ (j : Nat) y, j < l.length → l[j]? = some y → p y = false) : idxTo p l = -1 := by
  have : l.findIdx? p = none := by
    rw [List.findIdx?_eq_none_iff]
    intro x hx
    obtain ⟨j, hj, rfl⟩ := List.getElem_of_mem hx
    exact hno j _ hj (List.getElem?_eq_getElem hj)
  unfold idxTo
  rw [this]


theorem idx_any (p : Int × Int → Bool) (l : List (Int × Int)) : decide (0 ≤ idxTo p l) = l.any p := by
  unfold idxTo
  cases h : l.findIdx? p with
  | none =>
    rw [List.findIdx?_eq_none_iff] at h
    have : l.any p = false := by
      rw [List.any_eq_false]
      intro x hx
      simp [h x hx]
    rw [this]
    simp
  | some i =>
    rw [List.findIdx?_eq_some_iff_getElem] at h
    obtain ⟨hi, hp, _⟩ := h
    have : l.any p = true := by
      rw [List.any_eq_true]
      exact ⟨l[i], List.getElem_mem hi, hp⟩
    rw [this]
    simp

set_option maxRecDepth 100000 in
set_option maxHeartbeats 2000000 in
theorem index_any (A : Option Addr) (c : Nat) (l : List (Int × Int)) (w : World) (h : Wants w w.heap.size A l) (hl : l.length ≤ 1000000) :
    Calls Try.prog 43 #[.slice A l.length c, .func (.func 34) #[] #[]] w (IntPost (idxTo badW l) w) := by
  have hat := h.at_
  go_enter Try.func43, Try.ntmps43
  go_wp2_with fail
  go_loopw [8] (fun i wr => ∃ k : Nat, k ≤ l.length ∧ i = .int .i64 k ∧ (∀ j y, j < k → l[j]? = some y → badW y = false) ∧ Below w.heap.size w wr) (fun i _ => l.length - (intOf i).toNat)
  case atStart => exact ⟨0, Nat.zero_le _, rfl, fun j y hj => absurd hj (by omega), Below.refl _ _⟩
  case round =>
    obtain ⟨k, hk, rfl, hno, hb⟩ := hrel
    have HN := hide hno; clear hno
    by_cases hlt : k < l.length
    · obtain ⟨b, o, rfl, hbB, hc⟩ := hat (by omega)
      obtain ⟨x, hx⟩ : ∃ x, l[k]? = some x := ⟨l[k], List.getElem?_eq_getElem hlt⟩
      obtain ⟨hc0, hc1⟩ := hc k x hx
      have d0 := (hb.cell (p := ⟨b, o + k * 2, none⟩) hbB).trans hc0
      have d1 := (hb.cell (p := ⟨b, o + k * 2 + 1, none⟩) hbB).trans hc1
      have hz := hb.size
      have HX := hide hx
      have HB := hide hb
      clear hc0 hc1 hc hat hx hb
      have HC : Hid (∀ W, Calls Try.prog 34 #[.agg #[.int .i64 x.1, .int .i64 x.2]] W (ValPost (.bool (badW x)) W)) := hide (fun W => bad_any x W)
      by_cases hp : badW x = true
      · rw [hp] at HC
        have HR := hide (idxTo_hit HX.out hp HN.out)
        clear hp
        go_wp2_with (go_at_call 34; refine (HC.out _).mono ?_; rintro e w' ⟨rfl, hb1⟩)
        go_ret
        refine ⟨by rw [HR.out]; rfl, HB.out.trans (hb1.mono hz)⟩
      · have hp' : badW x = false := by simpa using hp
        rw [hp'] at HC
        have HP := hide hp'
        clear hp hp'
        go_wp2_with (go_at_call 34; refine (HC.out _).mono ?_; rintro e w' ⟨rfl, hb1⟩)
        go_roundw
        case rel =>
          refine ⟨k + 1, by omega, by go_num, fun j y hj hy => ?_, HB.out.trans (hb1.mono hz)⟩
          rcases Nat.lt_or_ge j k with h1 | h1
          · exact HN.out j y h1 hy
          · obtain rfl : j = k := by omega
            rw [HX.out] at hy
            injection hy with hy
            rw [← hy]
            exact HP.out
        case measure => simp [intOf]; omega
    · have : k = l.length := by omega
      subst this
      have HR := hide (idxTo_miss HN.out)
      go_wp2_with fail
      go_ret
      exact ⟨by rw [HR.out]; rfl, hb⟩
theorem contains_any (A : Option Addr) (c : Nat) (l : List (Int × Int)) (w : World) (h : Wants w w.heap.size A l) (hl : l.length ≤ 1000000) :
    Calls Try.prog 35 #[.slice A l.length c, .func (.func 34) #[] #[]] w (ValPost (.bool (l.any badW)) w) := by
  have HI := hide (index_any A c l w h hl)
  have HV := hide (idx_any badW l)
  generalize idxTo badW l = i at *
  clear h
  go_enter Try.func35, Try.ntmps35
  go_wp2_with (go_at_call 43; refine (HI.out).mono ?_; rintro e w' ⟨rfl, hb1⟩)
  go_ret
  exact ⟨by rw [← HV.out]; rfl, hb1⟩

/-- May wants be? -/
def checkI (b s : List (Int × Int)) : Int := if 4096 < b.length ∨ 4096 < s.length then 3 else if b.any badW = true ∨ s.any badW = true then 2 else 0
set_option maxRecDepth 100000 in
set_option maxHeartbeats 2000000 in
theorem check_any (A : Option Addr) (c : Nat) (b : List (Int × Int)) (A' : Option Addr) (c' : Nat) (s : List (Int × Int)) (w : World) (h : Wants w w.heap.size A b) (h' : Wants w w.heap.size A' s) :
    Calls Try.prog 18 #[.slice A b.length c, .slice A' s.length c'] w (IntPost (checkI b s) w) := by
  by_cases h1 : 4096 < b.length
  · have hr : checkI b s = 3 := by unfold checkI; rw [if_pos (.inl h1)]
    rw [hr]
    have e1 : (4096 : Int) < (b.length : Int) := by omega
    clear hr h h'
    go_enter Try.func18, Try.ntmps18
    go_wp2_with fail
    go_ret
    exact ⟨rfl, Below.refl _ _⟩
  · have e1 : decide ((4096 : Int) < (b.length : Int)) = false := decide_eq_false (by omega)
    have e1' : decide (4096 < b.length) = false := decide_eq_false h1
    by_cases h2 : 4096 < s.length
    · have hr : checkI b s = 3 := by unfold checkI; rw [if_pos (.inr h2)]
      rw [hr]
      have e2 : (4096 : Int) < (s.length : Int) := by omega
      clear hr h h'
      go_enter Try.func18, Try.ntmps18
      go_wp2_with fail
      go_ret
      exact ⟨rfl, Below.refl _ _⟩
    · have e2 : decide ((4096 : Int) < (s.length : Int)) = false := decide_eq_false (by omega)
      have e2' : decide (4096 < s.length) = false := decide_eq_false h2
      have hr : checkI b s = if b.any badW = true ∨ s.any badW = true then 2 else 0 := by unfold checkI; rw [if_neg (by omega)]
      have HB := hide (contains_any A c b w h (by omega))
      have HS := hide (fun (W : World) (hb : Below w.heap.size w W) => contains_any A' c' s W ((h'.below hb).more hb.size) (by omega))
      rw [hr]
      clear hr h h'
      generalize b.any badW = p at *
      generalize s.any badW = q at *
      cases p
      · cases q
        · rw [if_neg (by simp)]
          go_enter Try.func18, Try.ntmps18
          go_wp2_with fail
          refine (HB.out).mono ?_
          rintro e w1 ⟨rfl, hb1⟩
          have HB1 := hide hb1
          clear hb1
          go_wp2_with fail
          refine (HS.out w1 HB1.out).mono ?_
          rintro e w2 ⟨rfl, hb2⟩
          have HB2 : Hid (Below w.heap.size w w2) := hide (HB1.out.trans (hb2.mono HB1.out.size))
          clear hb2
          go_wp2_with fail
          go_ret
          exact ⟨rfl, HB2.out⟩
        · rw [if_pos (.inr rfl)]
          go_enter Try.func18, Try.ntmps18
          go_wp2_with fail
          refine (HB.out).mono ?_
          rintro e w1 ⟨rfl, hb1⟩
          have HB1 := hide hb1
          clear hb1
          go_wp2_with fail
          refine (HS.out w1 HB1.out).mono ?_
          rintro e w2 ⟨rfl, hb2⟩
          have HB2 : Hid (Below w.heap.size w w2) := hide (HB1.out.trans (hb2.mono HB1.out.size))
          clear hb2
          go_wp2_with fail
          go_ret
          exact ⟨rfl, HB2.out⟩
      · rw [if_pos (.inl rfl)]
        go_enter Try.func18, Try.ntmps18
        go_wp2_with fail
        refine (HB.out).mono ?_
        rintro e w1 ⟨rfl, hb1⟩
        have HB1 := hide hb1
        clear hb1
        go_wp2_with fail
        go_ret
        exact ⟨rfl, HB1.out⟩
end Go.Proofs.Ytogicdljbnllgaa
