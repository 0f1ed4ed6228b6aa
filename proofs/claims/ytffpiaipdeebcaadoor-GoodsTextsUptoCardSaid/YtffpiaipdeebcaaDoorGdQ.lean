/- Plain laws of sets: how many goods, whether within, whether apart. -/
import Derived.Test.YtffpiaipdeebcaaDoorGdP
import Derived.Test.YtffpiaipdeebcaaDoorApart7
import Derived.Lib.BitFns
namespace Go.Proofs.YtffpiaipdeebcaaDoor
open Go.RowKit Go.Maps

theorem mem_eachL {s i : Nat} : i ∈ eachL s ↔ i < 32 ∧ s.testBit i = true := by
  unfold eachL
  rw [List.mem_filter, List.mem_range'_1]
  simp
theorem bit_lt {s i : Nat} (hs : s < 4294967296) (h : s.testBit i = true) : i < 32 := by
  apply Nat.lt_of_not_le
  intro hle
  have hp := Nat.pow_le_pow_right (n := 2) (by omega) hle
  rw [Nat.testBit_lt_two_pow (by omega)] at h
  cases h
theorem within_each (a b : Nat) (ha : a < 4294967296) (hb : b < 4294967296) : ((eachL a).all fun i => b.testBit i) = withinB a b := by
  rw [Bool.eq_iff_iff, withinB_iff a b ha hb, List.all_eq_true]
  constructor
  · intro h i hi
    exact h i (mem_eachL.2 ⟨bit_lt ha hi, hi⟩)
  · intro h i hi
    exact h i (mem_eachL.1 hi).2
theorem eachL_nodup (s : Nat) : (eachL s).Nodup := by
  unfold eachL
  exact List.Pairwise.filter _ (List.nodup_range' ..)
theorem eachL_len (s : Nat) : (eachL s).length ≤ 32 := by
  unfold eachL
  exact Nat.le_trans (List.length_filter_le _ _) (by rw [List.length_range']; exact Nat.le_refl _)

/-- How many bits a byte has. -/
theorem byte_count : ∀ n : Fin 256, Lib.onesCount n.val = (List.range' 0 8).countP fun i => n.val.testBit i := by decide +kernel
theorem range_count (s : Nat) (k : Nat) : ((List.range' (8 * k) 8).countP fun i => s.testBit i) = Lib.onesCount (s / 2 ^ (8 * k) % 256) := by
  have h := byte_count ⟨s / 2 ^ (8 * k) % 256, Nat.mod_lt _ (by omega)⟩
  simp only at h
  rw [h]
  have e : List.range' (8 * k) 8 = (List.range' 0 8).map (8 * k + ·) := by
    rw [List.map_add_range']
    congr 1
  rw [e, List.countP_map]
  apply List.countP_congr
  intro i hi
  rw [List.mem_range'_1] at hi
  show s.testBit (8 * k + i) = true ↔ _
  rw [show (256 : Nat) = 2 ^ 8 from rfl, Nat.testBit_mod_two_pow, Nat.testBit_div_two_pow]
  simp [show i < 8 by omega, Nat.add_comm]
theorem count_eachL (s : Nat) : (eachL s).length = Lib.onesCount (s / 2 ^ 24 % 256) + Lib.onesCount (s / 2 ^ 16 % 256) + Lib.onesCount (s / 2 ^ 8 % 256) + Lib.onesCount (s % 256) := by
  unfold eachL
  rw [← List.countP_eq_length_filter]
  have e : List.range' 0 32 = List.range' (8 * 0) 8 ++ (List.range' (8 * 1) 8 ++ (List.range' (8 * 2) 8 ++ List.range' (8 * 3) 8)) := rfl
  rw [e, List.countP_append, List.countP_append, List.countP_append, range_count, range_count, range_count, range_count]
  simp
  omega

/-- The document's joining: good by good. -/
def apartR (s : Nat) : List Nat → Option Nat
  | [] => some s
  | g :: gs => if s.testBit g then none else apartR (s + 2 ^ g) gs
theorem setL_each (s g : Nat) (hg : g < 4294967296) : setL s (eachL g) = s ||| g := by
  apply Nat.eq_of_testBit_eq
  intro i
  rw [setL_bit, Nat.testBit_or]
  congr 1
  rw [Bool.eq_iff_iff, decide_eq_true_iff, mem_eachL]
  exact ⟨fun h => h.2, fun h => ⟨bit_lt hg h, h⟩⟩
theorem apartR_app : ∀ (l : List Nat) (m : List Nat) (s : Nat), l.Nodup → apartR s (l ++ m) = if (l.all fun i => !s.testBit i) = true then apartR (setL s l) m else none
  | [], m, s, _ => by simp [setL]
  | g :: l, m, s, hn => by
    show (if s.testBit g then none else apartR (s + 2 ^ g) (l ++ m)) = _
    by_cases h : s.testBit g = true
    · rw [if_pos h, if_neg (by simp [h])]
    · rw [if_neg h]
      have ho := or_pow s g
      rw [if_neg h] at ho
      rw [ho, apartR_app l m _ (List.nodup_cons.1 hn).2]
      have e : (l.all fun i => !(s ||| 2 ^ g).testBit i) = ((g :: l).all fun i => !s.testBit i) := by
        rw [List.all_cons, show (!s.testBit g) = true by simpa using h, Bool.true_and]
        rw [Bool.eq_iff_iff, List.all_eq_true, List.all_eq_true]
        have hgl := (List.nodup_cons.1 hn).1
        constructor <;> intro h5 i hi <;> have h6 := h5 i hi <;> have hne : ¬ g = i := (fun e => hgl (by rw [e]; exact hi)) <;> rw [Nat.testBit_or, Nat.testBit_two_pow] at * <;> simpa [hne] using h6
      rw [e]
      rfl
def okS (gs : List Nat) (s : Nat) : Bool := (List.range 32).all fun i => decide (cntAt gs i + (if s.testBit i then 1 else 0) ≤ 1)
theorem okS_iff {gs : List Nat} {s : Nat} : okS gs s = true ↔ ∀ i, i < 32 → cntAt gs i + (if s.testBit i then 1 else 0) ≤ 1 := by
  unfold okS
  rw [List.all_eq_true]
  simp
def orAll (s : Nat) (gs : List Nat) : Nat := gs.foldl (· ||| ·) s
theorem apart_law : ∀ (gs : List Nat) (s : Nat), (∀ g ∈ gs, g < 4294967296) → s < 4294967296 →
    apartR s (gs.flatMap eachL) = if okS gs s = true then some (orAll s gs) else none
  | [], s, _, _ => by
    rw [if_pos]
    · rfl
    · rw [okS_iff]
      intro i _
      simp only [cntAt, List.filter_nil, List.length_nil]
      split <;> omega
  | g :: gs, s, hg, hs => by
    have hg1 := hg g (List.mem_cons_self ..)
    have hc : ∀ i, cntAt (g :: gs) i = (if g.testBit i then 1 else 0) + cntAt gs i := fun i => by
      unfold cntAt
      rw [List.filter_cons]
      split
      · rw [List.length_cons]; omega
      · omega
    rw [List.flatMap_cons, apartR_app _ _ _ (eachL_nodup g), setL_each s g hg1]
    have hor : s ||| g < 4294967296 := Nat.or_lt_two_pow (n := 32) hs hg1
    by_cases h : ((eachL g).all fun i => !s.testBit i) = true
    · rw [if_pos h, apart_law gs (s ||| g) (fun x hx => hg x (List.mem_cons_of_mem _ hx)) hor]
      have hdis : ∀ i, g.testBit i = true → s.testBit i = false := fun i hi => by
        have := List.all_eq_true.1 h i (mem_eachL.2 ⟨bit_lt hg1 hi, hi⟩)
        simpa using this
      have e : (∀ i, i < 32 → cntAt gs i + (if (s ||| g).testBit i then 1 else 0) ≤ 1) ↔ (∀ i, i < 32 → cntAt (g :: gs) i + (if s.testBit i then 1 else 0) ≤ 1) := by
        constructor <;> intro h5 i hi <;> have h6 := h5 i hi <;> have h7 := hdis i <;> rw [hc] at * <;> rw [Nat.testBit_or] at * <;> cases hgi : g.testBit i <;> cases hsi : s.testBit i <;> simp_all <;> omega
      rw [← okS_iff, ← okS_iff] at e
      by_cases h8 : okS gs (s ||| g) = true
      · rw [if_pos h8, if_pos (e.1 h8)]
        rfl
      · rw [if_neg h8, if_neg (fun h9 => h8 (e.2 h9))]
    · rw [if_neg h, if_neg]
      rw [okS_iff]
      intro h5
      apply h
      rw [List.all_eq_true]
      intro i hi
      obtain ⟨h6, h7⟩ := mem_eachL.1 hi
      have h8 := h5 i h6
      rw [hc, if_pos h7] at h8
      cases hsi : s.testBit i
      · rfl
      · rw [hsi] at h8
        simp at h8
theorem apart_same (gs : List Nat) (hg : ∀ g ∈ gs, g < 4294967296) : apartR 0 (gs.flatMap eachL) = if apartB gs then some (orAll 0 gs) else none := by
  rw [apart_law gs 0 hg (by omega)]
  have e : okS gs 0 = apartB gs := by
    unfold okS apartB
    simp
  rw [e]
end Go.Proofs.YtffpiaipdeebcaaDoor
