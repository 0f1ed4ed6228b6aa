/- The walks of the reference of layer 15: Wrong, Part, Whole, Best, Without, SameInts, Same: what they compute. -/
import Derived.Test.YtkjmpenaifhfjaaTab
import Derived.Test.YtkjmpenaifhfjaaPart
namespace Go.Proofs.Ytkjmpenaifhfjaa
open Go.RowKit Go.Maps
open Go.ChangeMaps Go.WideMaps

set_option maxRecDepth 100000 in
set_option maxHeartbeats 2000000 in
theorem wrong_any (n : Int) (A : Option Addr) (c : Nat) (hs : List Hdr) (ls : List (List Offer)) (k : Int) (f : Nat) (w : World) (h : Buys w w.heap.size A hs ls) (hl : ls.length ≤ 1000000) (hls : BLens ls) (hw : BWide ls) (hf : f < 4294967296) :
    Calls Try.prog 32 #[instV n A ls.length c, .int .i64 k, .int .u32 (f : Int)] w (IntPost (mayE n ls k f) w) := by
  have hB : Below w.heap.size w (w.alloc (.cells #[.int .i64 n, .slice A ls.length c] 24)) := (Below.refl _ _).alloc (Nat.le_refl _) _
  have HI := hide (inst08_any n A c hs ls _ (h.up hB) hl hls hw)
  by_cases h1 : instE n ls = 0
  · have hg := instE_good hw h1
    have e1 : mayE n ls k f = if k < 0 ∨ (ls.length : Int) < k ∨ withinB f (allG n.toNat) = false then 2 else 0 := by unfold mayE; rw [if_neg (by simpa using h1)]
    rw [e1]
    have hlo := hg.lo
    have hhi := hg.hi
    have hfi : (f : Int) < 4294967296 := by omega
    have hwi : withinB f (allG n.toNat) = decide (f < 2 ^ n.toNat) := within_all f n.toNat hf (by omega)
    rw [h1] at HI
    clear h1 hg e1 h hw
    generalize withinB f (allG n.toNat) = b at *
    simp only [instV] at *
    by_cases h2 : k < 0
    · rw [if_pos (.inl h2)]
      go_enter Try.func32, Try.ntmps32
      go_wp2_with (first | (go_at_call 37; refine (HI.out).mono ?_; rintro e w1 ⟨rfl, hb1⟩; have e1 := (bcell hb1).1 w.heap.size 1 (by simp); have e0 := (bcell hb1).1 w.heap.size 0 (by simp)))
      go_ret
      exact ⟨rfl, hB.trans (hb1.mono (by simp))⟩
    · by_cases h3 : (ls.length : Int) < k
      · rw [if_pos (.inr (.inl h3))]
        go_enter Try.func32, Try.ntmps32
        go_wp2_with (first | (go_at_call 37; refine (HI.out).mono ?_; rintro e w1 ⟨rfl, hb1⟩; have e1 := (bcell hb1).1 w.heap.size 1 (by simp); have e0 := (bcell hb1).1 w.heap.size 0 (by simp)))
        go_ret
        exact ⟨rfl, hB.trans (hb1.mono (by simp))⟩
      · have hn : n = 1 ∨ n = 2 ∨ n = 3 ∨ n = 4 ∨ n = 5 ∨ n = 6 ∨ n = 7 ∨ n = 8 ∨ n = 9 ∨ n = 10 := by omega
        cases b
        · rw [if_pos (.inr (.inr rfl))]
          have hge := of_decide_eq_false hwi.symm
          clear hwi hlo hhi
          rcases hn with rfl | rfl | rfl | rfl | rfl | rfl | rfl | rfl | rfl | rfl
          all_goals
            simp only [Int.reduceToNat, Nat.reducePow, Nat.not_lt] at hge
            have d1 : decide (k < 0) = false := by simp; omega
            have d2 : decide ((ls.length : Int) < k) = false := by simp; omega
            have d3 : ∀ m : Int, m ≤ (f : Int) → decide (m ≤ (f : Int)) = true := fun m h => by simp; exact h
            have d4 := d3 _ (Int.ofNat_le.2 hge)
            simp only [Int.cast_ofNat_Int] at d4
            clear d3
            go_enter Try.func32, Try.ntmps32
            go_wp2_with (first | (go_at_call 37; refine (HI.out).mono ?_; rintro e w1 ⟨rfl, hb1⟩; have e1 := (bcell hb1).1 w.heap.size 1 (by simp); have e0 := (bcell hb1).1 w.heap.size 0 (by simp)))
            go_ret
            exact ⟨rfl, hB.trans (hb1.mono (by simp))⟩
        · rw [if_neg (by simp; omega)]
          have hge := of_decide_eq_true hwi.symm
          clear hwi hlo hhi
          rcases hn with rfl | rfl | rfl | rfl | rfl | rfl | rfl | rfl | rfl | rfl
          all_goals
            simp only [Int.reduceToNat, Nat.reducePow] at hge
            have d1 : decide (k < 0) = false := by simp; omega
            have d2 : decide ((ls.length : Int) < k) = false := by simp; omega
            have d3 : ∀ m : Nat, f < m → decide ((m : Int) ≤ (f : Int)) = false := fun m h => by simp; exact h
            have d4 := d3 _ hge
            simp only [Int.cast_ofNat_Int] at d4
            clear d3
            go_enter Try.func32, Try.ntmps32
            go_wp2_with (first | (go_at_call 37; refine (HI.out).mono ?_; rintro e w1 ⟨rfl, hb1⟩; have e1 := (bcell hb1).1 w.heap.size 1 (by simp); have e0 := (bcell hb1).1 w.heap.size 0 (by simp)))
            go_ret
            exact ⟨rfl, hB.trans (hb1.mono (by simp))⟩
  · have e1 : mayE n ls k f = instE n ls := by unfold mayE; rw [if_pos h1]
    rw [e1]
    have h1' : (instE n ls != 0) = true := by simpa using h1
    generalize instE n ls = z at *
    clear h1 e1 h
    simp only [instV] at *
    go_enter Try.func32, Try.ntmps32
    go_wp2_with (first | (go_at_call 37; refine (HI.out).mono ?_; rintro e w1 ⟨rfl, hb1⟩))
    go_ret
    exact ⟨rfl, hB.trans (hb1.mono (by simp))⟩

theorem TabIs.below {w w' : World} {base H sets : Nat} {ls : List (List Offer)} (h : TabIs w base H sets ls) (hb : Below w.heap.size w w') : TabIs w' base H sets ls := by
  obtain ⟨h1, h2, h3⟩ := h
  refine ⟨h1, Nat.lt_of_lt_of_le h2 hb.size, fun k hk => ?_⟩
  obtain ⟨g, a1, a2, a3, a4⟩ := h3 k hk
  exact ⟨g, a1, Nat.lt_of_lt_of_le a2 hb.size, (hb.cell (p := ⟨H, k, none⟩) h2).trans a3, fun f hf => (hb.cell (p := ⟨g, f, none⟩) a2).trans (a4 f hf)⟩

structure PRel (w1 : World) (ls : List (List Offer)) (k f : Nat) (W : Int) (i : Nat) (v : Value) (wr : World) : Prop where
  bel : Below w1.heap.size w1 wr
  loc : wr.heap[w1.heap.size]? = some (.cells #[v, .int .i64 W] 35 (0, 0))
  row : wr.ownsRow w1.heap.size 3 1 v i (((List.range i).map (numAt ls k f)).map (Value.int .i64))
theorem PRel.below {w1 wr w2 : World} {ls : List (List Offer)} {k f : Nat} {W : Int} {i : Nat} {v : Value} (h : PRel w1 ls k f W i v wr) (hb : Below wr.heap.size wr w2) : PRel w1 ls k f W i v w2 :=
  ⟨h.bel.trans (hb.mono h.bel.size), (hb.block _ (lt_of_block h.loc)).trans h.loc, own_below h.row hb (Nat.le_refl _)⟩
theorem PRel.push {w1 wr w2 : World} {ls : List (List Offer)} {k f : Nat} {W : Int} {i : Nat} {v v' : Value} (h : PRel w1 ls k f W i v wr) {z : Int} (hown : w2.ownsRow w1.heap.size 3 1 v' (i + 1) (((List.range i).map (numAt ls k f)).map (Value.int .i64) ++ [.int .i64 z])) (hg : wr.grownBy w2 v.ownBlock) (hz : numAt ls k f i = z) :
    PRel w1 ls k f W (i + 1) v' (w2.setCell ⟨w1.heap.size, 0, none⟩ v') := by
  have hqv : v.ownBlock ≠ some w1.heap.size := own_ne h.row h.loc (by simp)
  have hloc2 := (hg.block _ (lt_of_block h.loc) (Ne.symm hqv)).trans h.loc
  have hqv' : v'.ownBlock ≠ some w1.heap.size := own_ne hown hloc2 (by simp)
  refine ⟨(h.bel.grown hg h.bel.size (fun j hj => (h.row.lt j hj).1)).setCell (Nat.le_refl _) _, setCell_block hloc2 0 v', ?_⟩
  have e : ((List.range (i + 1)).map (numAt ls k f)).map (Value.int .i64) = ((List.range i).map (numAt ls k f)).map (Value.int .i64) ++ [.int .i64 z] := by
    rw [List.range_succ, List.map_append, List.map_append]
    simp [hz]
  rw [e]
  exact ownsRow_setCell_other hown hqv' _

/-- The least place that is hit, from t on. -/
def Least (p : Offer → Bool) (l : List Offer) (t : Nat) (n : Int) : Prop :=
  (n = -1 ∧ ∀ (j : Nat) y, t ≤ j → l[j]? = some y → p y = false) ∨ ∃ (m : Nat) (x : Offer), n = m ∧ t ≤ m ∧ l[m]? = some x ∧ p x = true ∧ ∀ (j : Nat) y, t ≤ j → j < m → l[j]? = some y → p y = false
theorem Least.idx {p : Offer → Bool} {l : List Offer} {n : Int} (h : Least p l 0 n) : n = idxTo p l := by
  rcases h with ⟨rfl, h⟩ | ⟨m, x, rfl, _, hx, hp, h⟩
  · exact (idxTo_miss (fun j y _ hy => h j y (Nat.zero_le _) hy)).symm
  · exact (idxTo_hit hx hp (fun j y hj hy => h j y (Nat.zero_le _) hj hy)).symm
theorem Least.start (p : Offer → Bool) (l : List Offer) : Least p l l.length (-1) := .inl ⟨rfl, fun j y hj hy => by rw [List.getElem?_eq_none hj] at hy; cases hy⟩
theorem Least.hit {p : Offer → Bool} {l : List Offer} {t : Nat} {x : Offer} (hx : l[t]? = some x) (hp : p x = true) : Least p l t (t : Int) := .inr ⟨t, x, rfl, Nat.le_refl _, hx, hp, fun j y h1 h2 => by omega⟩
theorem Least.miss {p : Offer → Bool} {l : List Offer} {t : Nat} {n : Int} {x : Offer} (h : Least p l (t + 1) n) (hx : l[t]? = some x) (hp : p x = false) : Least p l t n := by
  have key : ∀ (j : Nat) y, t ≤ j → l[j]? = some y → (t + 1 ≤ j → p y = false) → p y = false := by
    intro j y hj hy h1
    rcases Nat.lt_or_ge t j with h2 | h2
    · exact h1 h2
    · obtain rfl : j = t := by omega
      rw [hx] at hy
      injection hy with hy
      rw [← hy]
      exact hp
  rcases h with ⟨rfl, h⟩ | ⟨m, z, rfl, hm, hz, hpz, h⟩
  · exact .inl ⟨rfl, fun j y hj hy => key j y hj hy (fun h2 => h j y h2 hy)⟩
  · exact .inr ⟨m, z, rfl, by omega, hz, hpz, fun j y hj hjm hy => key j y hj hy (fun h2 => h j y h2 hjm hy)⟩

end Go.Proofs.Ytkjmpenaifhfjaa
