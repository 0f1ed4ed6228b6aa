/- The trades of two sides in order: plain. -/
import Derived.Test.YtogicdljbnllgaaAtP
import Derived.Test.YtogicdljbnllgaaSeqL
namespace Go.Proofs.Ytogicdljbnllgaa
open Go.Shelf Go.RowKit Go.Lib Go.Sort Go.Proofs

/-- A want in order: whose, for how many coins, how many. -/
abbrev Tri := Int × Int × Int
/-- A trade: whose units meet, how many. -/
abbrev Trd := (Int × Int) × (Int × Int) × Int
def unitT (x : Tri) : Int × Int := (x.1, x.2.1)
def runW : List Tri → List Tri → Int → Int → List Trd × Option (Int × Int) × Option (Int × Int)
  | [], [], _, _ => ([], none, none)
  | [], y :: _, _, _ => ([], none, some (unitT y))
  | x :: _, [], _, _ => ([], some (unitT x), none)
  | x :: bs, y :: ss, g, w =>
    if x.2.1 < y.2.1 then ([], some (unitT x), some (unitT y)) else
    if x.2.2 - g < y.2.2 - w then ((unitT x, unitT y, x.2.2 - g) :: (runW bs (y :: ss) 0 (w + (x.2.2 - g))).1, (runW bs (y :: ss) 0 (w + (x.2.2 - g))).2) else
    if y.2.2 - w < x.2.2 - g then ((unitT x, unitT y, y.2.2 - w) :: (runW (x :: bs) ss (g + (y.2.2 - w)) 0).1, (runW (x :: bs) ss (g + (y.2.2 - w)) 0).2) else
    ((unitT x, unitT y, x.2.2 - g) :: (runW bs ss 0 0).1, (runW bs ss 0 0).2)
termination_by bs ss => bs.length + ss.length
decreasing_by all_goals (simp only [List.length_cons]; omega)

def triV : Option Tri → Value
  | none => .tuple #[.agg #[.int .i64 0, .int .i64 0], .int .i64 0, .bool false]
  | some x => .tuple #[.agg #[.int .i64 x.1, .int .i64 x.2.1], .int .i64 x.2.2, .bool true]
/-- A side in order. -/
def ordT (l : List (Int × Int)) (o : List Int) : List Tri := o.map fun who => (who, l.getD who.toNat (0, 0))
theorem ordT_len (l : List (Int × Int)) (o : List Int) : (ordT l o).length = o.length := List.length_map _
theorem atV_tri {l : List (Int × Int)} {o : List Int} (hin : InR l.length o) (p : Nat) : atV l o p = triV ((ordT l o)[p]?) := by
  unfold atV ordT
  rw [List.getElem?_map]
  cases h : o[p]? with
  | none => rfl
  | some who =>
    obtain ⟨h0, h1⟩ := hin who (List.mem_of_getElem? h)
    have hk : who.toNat < l.length := by omega
    simp only [Option.map_some, List.getElem?_eq_getElem hk, List.getD_eq_getElem?_getD, Option.getD_some, triV]
/-- Counts that are some, and not many. -/
def CountT (l : List Tri) : Prop := ∀ x ∈ l, 1 ≤ x.2.2 ∧ x.2.2 ≤ 64
theorem runW_nil (bs : List Tri) (g w : Int) : runW bs [] g w = ([], bs.head?.map unitT, none) := by
  cases bs <;> simp [runW]
theorem runW_nil' (ss : List Tri) (g w : Int) : runW [] ss g w = ([], none, ss.head?.map unitT) := by
  cases ss <;> simp [runW]
theorem runW_low {x y : Tri} (bs ss : List Tri) (g w : Int) (h : x.2.1 < y.2.1) : runW (x :: bs) (y :: ss) g w = ([], some (unitT x), some (unitT y)) := by
  rw [runW, if_pos h]
theorem runW_b {x y : Tri} (bs ss : List Tri) (g w : Int) (h : ¬ x.2.1 < y.2.1) (h2 : x.2.2 - g < y.2.2 - w) : runW (x :: bs) (y :: ss) g w = ((unitT x, unitT y, x.2.2 - g) :: (runW bs (y :: ss) 0 (w + (x.2.2 - g))).1, (runW bs (y :: ss) 0 (w + (x.2.2 - g))).2) := by
  rw [runW, if_neg h, if_pos h2]
theorem runW_s {x y : Tri} (bs ss : List Tri) (g w : Int) (h : ¬ x.2.1 < y.2.1) (h2 : y.2.2 - w < x.2.2 - g) : runW (x :: bs) (y :: ss) g w = ((unitT x, unitT y, y.2.2 - w) :: (runW (x :: bs) ss (g + (y.2.2 - w)) 0).1, (runW (x :: bs) ss (g + (y.2.2 - w)) 0).2) := by
  rw [runW, if_neg h, if_neg (by omega), if_pos h2]
theorem runW_e {x y : Tri} (bs ss : List Tri) (g w : Int) (h : ¬ x.2.1 < y.2.1) (h2 : x.2.2 - g = y.2.2 - w) : runW (x :: bs) (y :: ss) g w = ((unitT x, unitT y, x.2.2 - g) :: (runW bs ss 0 0).1, (runW bs ss 0 0).2) := by
  rw [runW, if_neg h, if_neg (by omega), if_neg (by omega)]
theorem ordK_in (κ : Int × Int → Int) (l : List (Int × Int)) : InR l.length (ordK κ l) := by
  intro x hx
  unfold ordK sortedI at hx
  rw [List.mem_mergeSort] at hx
  unfold rangeI at hx
  obtain ⟨i, hi, rfl⟩ := List.mem_map.1 hx
  have := List.mem_range.1 hi
  omega
theorem OutP.cell {p : Nat → Prop} {a b : World} (h : OutP p a b) {x : Addr} {v : Value} (hc : a.cell? x = some v) (hn : ¬ p x.block) : b.cell? x = some v := by
  have hlt := World.block_lt_of_cell? _ _ hc
  have hb := h.block _ hlt hn
  rw [← hc]
  unfold World.cell?
  rw [hb]
theorem OutP.reads {p : Nat → Prop} {a b : World} (h : OutP p a b) {B size n : Nat} {A : Option Addr} {xs : List Value} (hr : Reads a B size A n xs) (hs : 0 < size) (hn : 0 < n → ∀ x, A = some x → ¬ p x.block) : Reads b B size A n xs :=
  ⟨hr.1, fun h0 => by
    obtain ⟨bb, o, e, hb, hc⟩ := hr.2 h0
    exact ⟨bb, o, e, hb, fun j u hu => h.cell (hc j u hu) (show ¬ p bb from hn h0 _ e)⟩⟩
end Go.Proofs.Ytogicdljbnllgaa
