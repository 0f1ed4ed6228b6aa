/- The walks of Are, none, ContainsFunc, total, Sum, all, the document's Sum; two lists of numbers compared; a list in memory of its own with a mark behind. -/
import Derived.Test.YtgjeihgkcmheeaaDoorRows
import Derived.Test.YtgjeihgkcmheeaaDoorBase
import Derived.RangeFuncNested
import Derived.RangeFuncBound
import Derived.RangeFuncCalls
import Derived.RangeFuncLeaves
import Derived.RangeFuncFrom
import Derived.Shelf.Abstract
import Derived.Shelf.RegionOpen
import Derived.OwnWalkIn
import Derived.TacticsInMore
import Derived.LoopNIn
import Derived.LoopIn
import Derived.BigQuiet
import Derived.BigRegion
import Derived.Deep.QuietTactic
import Derived.Deep.CutRange
namespace Go.Proofs.YtgjeihgkcmheeaaDoor
open Go.RowKit Go.Shelf

def SameP (v : Value) (w : World) (e : Ending) (w' : World) : Prop := e = .returned v ∧ w = w'
def BelP (v : Value) (w : World) (e : Ending) (w' : World) : Prop := e = .returned v ∧ Below w.heap.size w w'
def intV (l : List Int) : List Value := l.map (Value.int .i64)
def isC (c : Int) : Bool := decide (0 ≤ c) && decide (c ≤ 1099511627776)
def allC (l : List Int) : Bool := l.all isC
theorem isC_iff {c : Int} : isC c = true ↔ 0 ≤ c ∧ c ≤ 1099511627776 := by simp [isC]
theorem isC_not {c : Int} : isC c = false ↔ c < 0 ∨ 1099511627776 < c := by
  rw [← Bool.not_eq_true, isC_iff]; omega
theorem intV_len (l : List Int) : (intV l).length = l.length := by simp [intV]
theorem intV_get {l : List Int} {k : Nat} {c : Int} (h : l[k]? = some c) : (intV l)[k]? = some (.int .i64 c) := by unfold intV; rw [List.getElem?_map, h]; rfl
theorem Reads.int {w : World} {B n k : Nat} {A : Option Addr} {l : List Int} {c : Int} (h : Reads w B 1 A n (intV l)) (hn : k < n) (hc : l[k]? = some c) : ∃ g o, A = some ⟨g, o, none⟩ ∧ g < B ∧ w.cell? ⟨g, o + k, none⟩ = some (.int .i64 c) := by
  obtain ⟨g, o, e, hg, hx⟩ := h.2 (by omega)
  exact ⟨g, o, e, hg, hx k _ (intV_get hc)⟩
theorem Reads.len {w : World} {B n : Nat} {A : Option Addr} {l : List Int} (h : Reads w B 1 A n (intV l)) : l.length = n := by
  have := h.1
  rw [intV_len] at this
  omega

set_option maxHeartbeats 1000000 in
theorem are_any (c : Int) (w : World) : Calls Tryd.prog 26 #[.int .i64 c] w (SameP (.bool (isC c)) w) := by
  by_cases h0 : 0 ≤ c
  · by_cases h1 : c ≤ 1099511627776
    · have hv := hide (isC_iff.2 ⟨h0, h1⟩)
      go_enter Tryd.func26, Tryd.ntmps26
      go_wp2_with fail
      go_ret
      exact ⟨by rw [hv.out]; rfl, rfl⟩
    · have hv := hide (isC_not.2 (.inr (by omega : 1099511627776 < c)))
      go_enter Tryd.func26, Tryd.ntmps26
      go_wp2_with fail
      go_ret
      exact ⟨by rw [hv.out]; rfl, rfl⟩
  · have hv := hide (isC_not.2 (.inl (by omega : c < 0)))
    go_enter Tryd.func26, Tryd.ntmps26
    go_wp2_with fail
    go_ret
    exact ⟨by rw [hv.out]; rfl, rfl⟩
set_option maxHeartbeats 1000000 in
theorem docAre_any (c : Int) (w : World) : Calls Tryd.prog 22 #[.int .i64 c] w (SameP (.bool (isC c)) w) := by
  by_cases h0 : 0 ≤ c
  · by_cases h1 : c ≤ 1099511627776
    · have hv := hide (isC_iff.2 ⟨h0, h1⟩)
      go_enter Tryd.func22, Tryd.ntmps22
      go_wp2_with fail
      go_ret
      exact ⟨by rw [hv.out]; rfl, rfl⟩
    · have hv := hide (isC_not.2 (.inr (by omega : 1099511627776 < c)))
      go_enter Tryd.func22, Tryd.ntmps22
      go_wp2_with fail
      go_ret
      exact ⟨by rw [hv.out]; rfl, rfl⟩
  · have hv := hide (isC_not.2 (.inl (by omega : c < 0)))
    go_enter Tryd.func22, Tryd.ntmps22
    go_wp2_with fail
    go_ret
    exact ⟨by rw [hv.out]; rfl, rfl⟩
set_option maxHeartbeats 1000000 in
theorem none_any (c : Int) (w : World) : Calls Tryd.prog 50 #[.int .i64 c] w (SameP (.bool (!isC c)) w) := by
  have HA := hide (are_any c w)
  obtain ⟨b, hb⟩ : ∃ b, isC c = b := ⟨_, rfl⟩
  rw [hb] at HA ⊢
  clear hb
  go_enter Tryd.func50, Tryd.ntmps50
  go_wp2_with fail
  refine (HA.out).mono ?_
  rintro _ _ ⟨rfl, rfl⟩
  go_wp2_with fail
  go_ret
  exact ⟨rfl, rfl⟩
/-- The first number that is no coins, or the list's end. -/
def badAt (l : List Int) : Nat := l.findIdx fun c => !isC c
theorem allC_take {l : List Int} {k : Nat} (hk : k < l.length) (hp : ∀ j : Nat, j < k → ∀ c, l[j]? = some c → isC c = true) (hc : isC l[k] = true) : ∀ j : Nat, j < k + 1 → ∀ c, l[j]? = some c → isC c = true := fun j hj c hjc => by
  rcases Nat.lt_or_ge j k with h | h
  · exact hp j h c hjc
  · obtain rfl : j = k := by omega
    rw [List.getElem?_eq_getElem hk] at hjc
    injection hjc with hjc
    rw [← hjc]; exact hc
theorem allC_full {l : List Int} (hp : ∀ j : Nat, j < l.length → ∀ c, l[j]? = some c → isC c = true) : allC l = true := by
  unfold allC
  rw [List.all_eq_true]
  intro c hc
  obtain ⟨j, hj, e⟩ := List.getElem_of_mem hc
  exact hp j hj c (by rw [List.getElem?_eq_getElem hj, e])
theorem allC_bad {l : List Int} {k : Nat} (hk : k < l.length) (hc : isC l[k] = false) : allC l = false := by
  unfold allC
  rw [List.all_eq_false]
  exact ⟨l[k], List.getElem_mem hk, by rw [hc]; simp⟩
theorem allC_mem {l : List Int} (h : allC l = true) {c : Int} (hc : c ∈ l) : 0 ≤ c ∧ c ≤ 1099511627776 := by
  unfold allC at h
  exact isC_iff.1 (List.all_eq_true.1 h c hc)
theorem allC_get {l : List Int} (h : allC l = true) {k : Nat} {c : Int} (hc : l[k]? = some c) : 0 ≤ c ∧ c ≤ 1099511627776 := allC_mem h (List.mem_of_getElem? hc)

/-- What a search leaves. -/
def FoundP (l : List Int) (w : World) (e : Ending) (w' : World) : Prop := ∃ i : Int, e = .returned (.int .i64 i) ∧ decide (0 ≤ i) = (!allC l) ∧ w = w'
set_option maxRecDepth 100000 in
set_option maxHeartbeats 4000000 in
theorem index_any {w : World} {A : Option Addr} {n c : Nat} {l : List Int} (h : Reads w w.heap.size 1 A n (intV l)) (hn : n ≤ 4611686018427387904) :
    Calls Tryd.prog 66 #[.slice A n c, .func (.func 50) #[] #[]] w (FoundP l w) := by
  have HR := hide h
  have HL := hide h.len
  have hn9 : (n : Int) ≤ 4611686018427387904 := by omega
  clear h hn
  go_enter Tryd.func66, Tryd.ntmps66
  go_wp2_with fail
  go_loop [8] (fun iv => ∃ k : Nat, k ≤ n ∧ iv = .int .i64 k ∧ ∀ j : Nat, j < k → ∀ c, l[j]? = some c → isC c = true) (fun iv => n - (intOf iv).toNat)
  case atStart => exact ⟨0, Nat.zero_le _, rfl, fun j hj => absurd hj (by omega)⟩
  case round =>
    obtain ⟨k, hk, rfl, hp⟩ := hrel
    have HP := hide hp
    clear hp
    have hk0 : (0 : Int) ≤ (k : Int) := by omega
    have hk9 : (k : Int) ≤ 4611686018427387904 := by omega
    by_cases hlt : k < n
    · have hkl : k < l.length := by have := HL.out; omega
      obtain ⟨x, hx⟩ : ∃ x, l[k]? = some x := ⟨l[k], List.getElem?_eq_getElem hkl⟩
      obtain ⟨g, o, rfl, _, hc⟩ := HR.out.int hlt hx
      have hki : (k : Int) < (n : Int) := by omega
      have HN := hide (none_any x w)
      have HLT := hide hlt
      have hxl : l[k] = x := by rw [List.getElem?_eq_getElem hkl] at hx; exact Option.some.inj hx
      cases hb : isC x with
      | true =>
        have HX := hide (allC_take hkl HP.out (by rw [hxl]; exact hb))
        rw [hb] at HN
        clear hx hxl hkl hb hlt
        go_wp2_with fail
        refine (HN.out).mono ?_
        rintro _ _ ⟨rfl, rfl⟩
        go_wp2_with fail
        go_roundw
        case rel => exact ⟨k + 1, HLT.out, by go_num, HX.out⟩
        case measure => have := HLT.out; simp [intOf]; omega
      | false =>
        have HX := hide (allC_bad hkl (by rw [hxl]; exact hb))
        rw [hb] at HN
        clear hx hxl hkl hb hlt
        go_wp2_with fail
        refine (HN.out).mono ?_
        rintro _ _ ⟨rfl, rfl⟩
        go_wp2_with fail
        go_ret
        exact ⟨_, rfl, by rw [HX.out]; simp, rfl⟩
    · have hki : ¬ (k : Int) < (n : Int) := by omega
      have hkn : k = n := by omega
      subst hkn
      have HX := hide (allC_full (l := l) (fun j hj => HP.out j (by have := HL.out; omega)))
      go_wp2_with fail
      go_ret
      exact ⟨_, rfl, by rw [HX.out]; rfl, rfl⟩
set_option maxHeartbeats 1000000 in
theorem contains_any {w : World} {A : Option Addr} {n c : Nat} {l : List Int} (h : Reads w w.heap.size 1 A n (intV l)) (hn : n ≤ 4611686018427387904) :
    Calls Tryd.prog 49 #[.slice A n c, .func (.func 50) #[] #[]] w (SameP (.bool (!allC l)) w) := by
  have HI := hide (index_any (c := c) h hn)
  clear h hn
  go_enter Tryd.func49, Tryd.ntmps49
  go_wp2_with fail
  refine (HI.out).mono ?_
  rintro _ _ ⟨i, rfl, hi, rfl⟩
  have HJ := hide hi
  clear hi
  by_cases h0 : 0 ≤ i
  · go_wp2_with fail
    go_ret
    exact ⟨by rw [← HJ.out, decide_eq_true h0]; rfl, rfl⟩
  · go_wp2_with fail
    go_ret
    exact ⟨by rw [← HJ.out, decide_eq_false (by omega)]; rfl, rfl⟩
def sumL (l : List Int) : Int := l.foldl (· + ·) 0
theorem sum_from (l : List Int) : ∀ s, l.foldl (· + ·) s = s + sumL l := by
  induction l with
  | nil => intro s; simp [sumL]
  | cons c l ih =>
    intro s
    have h1 := ih (s + c)
    have h2 := ih (0 + c)
    simp only [List.foldl_cons, sumL] at *
    omega
theorem sumL_cons (c : Int) (l : List Int) : sumL (c :: l) = c + sumL l := by
  have h := sum_from l (0 + c)
  unfold sumL at *
  rw [List.foldl_cons, h]; omega
theorem sumL_append (a b : List Int) : sumL (a ++ b) = sumL a + sumL b := by
  induction a with
  | nil => simp [sumL]
  | cons c a ih => rw [List.cons_append, sumL_cons, sumL_cons, ih]; omega
theorem sumL_nil : sumL [] = 0 := rfl
theorem sumL_take {l : List Int} {k : Nat} {x : Int} (h : l[k]? = some x) : sumL (l.take (k + 1)) = sumL (l.take k) + x := by
  rw [List.take_add_one, h, sumL_append]
  simp [sumL]
theorem sumL_bound {l : List Int} (h : allC l = true) : 0 ≤ sumL l ∧ sumL l ≤ 1099511627776 * l.length := by
  induction l with
  | nil => simp [sumL]
  | cons c l ih =>
    have hc := allC_mem h (List.mem_cons_self ..)
    have hl : allC l = true := by unfold allC at h ⊢; rw [List.all_cons, Bool.and_eq_true] at h; exact h.2
    have h1 := ih hl
    rw [sumL_cons, List.length_cons]
    omega
theorem allC_takeN {l : List Int} (h : allC l = true) (k : Nat) : allC (l.take k) = true := by
  unfold allC at h ⊢
  rw [List.all_eq_true] at h ⊢
  exact fun c hc => h c (List.mem_of_mem_take hc)
theorem sumL_takeB {l : List Int} (h : allC l = true) (k : Nat) : 0 ≤ sumL (l.take k) ∧ sumL (l.take k) ≤ 1099511627776 * k := by
  have h1 := sumL_bound (allC_takeN h k)
  have h2 : (l.take k).length ≤ k := by rw [List.length_take]; omega
  omega
end Go.Proofs.YtgjeihgkcmheeaaDoor
