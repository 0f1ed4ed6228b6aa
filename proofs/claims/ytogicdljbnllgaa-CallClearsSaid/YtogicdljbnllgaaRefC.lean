/- What the reference's Clear works with. -/
import Derived.Test.YtogicdljbnllgaaRefT
import Derived.Test.YtogicdljbnllgaaFairR
import Derived.Test.YtogicdljbnllgaaFills
namespace Go.Proofs.Ytogicdljbnllgaa
open Go.Shelf Go.RowKit Go.Lib Go.Sort Go.Proofs

theorem sets_not : ∀ (S : List (Tri × Int × Int)) (o : List Int) (i : Nat), (∀ e ∈ S, e.1.1.toNat ≠ i) → (S.foldl (fun o e => o.set e.1.1.toNat e.2.1) o)[i]? = o[i]?
  | [], o, i, _ => rfl
  | e :: S, o, i, h => by
    rw [List.foldl_cons, sets_not S _ i (fun f hf => h f (List.mem_cons_of_mem _ hf)), List.getElem?_set_ne (h e List.mem_cons_self)]
theorem sets_at : ∀ (S : List (Tri × Int × Int)) (o : List Int) (i : Nat), (∀ e ∈ S, 0 ≤ e.1.1) → (S.map fun e => e.1.1).Nodup → ∀ e ∈ S, e.1.1 = (i : Int) → i < o.length → (S.foldl (fun o e => o.set e.1.1.toNat e.2.1) o)[i]? = some e.2.1
  | [], o, i, _, _, e, he, _, _ => by cases he
  | f :: S, o, i, h0, hn, e, he, hi, hl => by
    rw [List.map_cons, List.nodup_cons] at hn
    rw [List.foldl_cons]
    rcases List.mem_cons.1 he with rfl | he
    · rw [sets_not S _ i (fun g hg hgi => hn.1 (List.mem_map.2 ⟨g, hg, by have := h0 g (List.mem_cons_of_mem _ hg); omega⟩)), show e.1.1.toNat = i by omega, List.getElem?_set_self hl]
    · exact sets_at S _ i (fun g hg => h0 g (List.mem_cons_of_mem _ hg)) hn.2 e he hi (by rw [List.length_set]; exact hl)
theorem sharesA_at {κ : Int × Int → Int} {l : List (Int × Int)} {i : Nat} {z : Int × Int} (h : l[i]? = some z) (K : Int) : (sharesA l.length (ordT l (ordK κ l)) K)[i]? = some (got (sharesG (ordT l (ordK κ l)) 0 K) (i : Int)) := by
  obtain ⟨e, he, h1, _, h3⟩ := share_at (κ := κ) h K
  have hi : i < l.length := (List.getElem?_eq_some_iff.1 h).1
  have hn : ((sharesG (ordT l (ordK κ l)) 0 K).map fun e => e.1.1).Nodup := by
    have : (sharesG (ordT l (ordK κ l)) 0 K).map (fun e => e.1.1) = ((sharesG (ordT l (ordK κ l)) 0 K).map (·.1)).map (·.1) := by rw [List.map_map]; rfl
    rw [this, shares_fst, ordT_fst]
    exact ordK_nodup κ l
  have h0 : ∀ e ∈ sharesG (ordT l (ordK κ l)) 0 K, 0 ≤ e.1.1 := fun f hf => by
    have : f.1 ∈ (sharesG (ordT l (ordK κ l)) 0 K).map (·.1) := List.mem_map.2 ⟨f, hf, rfl⟩
    rw [shares_fst] at this
    exact (ordT_mem this).1
  rw [h3]
  unfold sharesA
  exact sets_at _ _ i h0 hn e he (by rw [h1]) (by rw [List.length_replicate]; exact hi)
theorem swap_got {b s : List (Int × Int)} (hb : OkW b) (hs : OkW s) (i : Nat) : giv ((RunA b s).1.map swp) (i : Int) = got (sharesG (ordT s (ordK κS s)) 0 (sumT (RunA b s).1)) (i : Int) := by
  have hm := (hb.mid hs).swap
  have hR := run_swapA hb hs
  have hsh : ∀ (l : List Tri) (g K : Int), sharesG (l.map negT) g K = (sharesG l g K).map fun e => (negT e.1, e.2) := by
    intro l
    induction l with
    | nil => intro g K; rfl
    | cons x l ih => intro g K; simp only [List.map_cons, sharesG, ih]; rfl
  have hgt : ∀ (l : List (Tri × Int × Int)) (who : Int), got (l.map fun e => (negT e.1, e.2)) who = got l who := by
    intro l who
    induction l with
    | nil => rfl
    | cons x l ih => simp only [List.map_cons, got, ih]; rfl
  have hg := run_got hm (i : Int)
  rw [hR] at hg
  simp only [sum_swap, hsh] at hg
  rwa [hgt] at hg
theorem shares_givenB {b s : List (Int × Int)} (hb : OkW b) (hs : OkW s) : sharesA b.length (sideB b) (sumT (RunA b s).1) = givenB b.length (RunA b s).1 := by
  apply List.ext_getElem?
  intro i
  by_cases hi : i < b.length
  · rw [givenB_at (fun t ht => (run_trd hb hs ht).1.1) hi, sharesA_at (List.getElem?_eq_getElem hi)]
    exact congrArg some (run_got (hb.mid hs) (i : Int)).symm
  · rw [List.getElem?_eq_none (by rw [sharesA_len]; omega), List.getElem?_eq_none (by rw [givenB_len]; omega)]
theorem shares_givenS {b s : List (Int × Int)} (hb : OkW b) (hs : OkW s) : sharesA s.length (sideS s) (sumT (RunA b s).1) = givenS s.length (RunA b s).1 := by
  apply List.ext_getElem?
  intro i
  by_cases hi : i < s.length
  · rw [givenS_at (fun t ht => (run_trd hb hs ht).2.1.1) hi, sharesA_at (List.getElem?_eq_getElem hi)]
    exact congrArg some (swap_got hb hs i).symm
  · rw [List.getElem?_eq_none (by rw [sharesA_len]; omega), List.getElem?_eq_none (by rw [givenS_len]; omega)]

/-- The function's own cells. -/
structure RcS (w : World) (p8 p9 : Nat) (A : Option Addr) (c : Nat) (b : List (Int × Int)) (O : Option Addr) (co : Nat) (A' : Option Addr) (c' : Nat) (s : List (Int × Int)) (O' : Option Addr) (co' : Nat) (cs : Array Value) (W : World) : Prop where
  bel : Below w.heap.size w W
  z : W.heap[w.heap.size]? = some (.cells zeroC 28 (0, 0))
  cl : W.heap[w.heap.size + 1]? = some (.cells cs 28 (0, 0))
  hb : W.heap[p8]? = some (.cells #[.slice A b.length c, .slice O b.length co] 72 (0, 0))
  hs : W.heap[p9]? = some (.cells #[.slice A' s.length c', .slice O' s.length co'] 72 (0, 0))
  ob : W.ownsRow (w.heap.size + 2) 3 1 (.slice O b.length co) b.length ((ordK κB b).map (Value.int .i64))
  os : W.ownsRow (w.heap.size + 2) 3 1 (.slice O' s.length co') s.length ((ordK κS s).map (Value.int .i64))
  lo : w.heap.size + 2 ≤ p8 ∧ w.heap.size + 2 ≤ p9
section
variable {w W W' : World} {p8 p9 : Nat} {A : Option Addr} {c : Nat} {b : List (Int × Int)} {O : Option Addr} {co : Nat} {A' : Option Addr} {c' : Nat} {s : List (Int × Int)} {O' : Option Addr} {co' : Nat} {cs : Array Value}
theorem RcS.below (h : RcS w p8 p9 A c b O co A' c' s O' co' cs W) (hb : Below W.heap.size W W') : RcS w p8 p9 A c b O co A' c' s O' co' cs W' :=
  ⟨h.bel.trans (hb.mono h.bel.size), (hb.block _ (lt_of_block h.z)).trans h.z, (hb.block _ (lt_of_block h.cl)).trans h.cl, (hb.block _ (lt_of_block h.hb)).trans h.hb, (hb.block _ (lt_of_block h.hs)).trans h.hs, own_below h.ob hb (Nat.le_refl _), own_below h.os hb (Nat.le_refl _), h.lo⟩
theorem RcS.drewN (h : RcS w p8 p9 A c b O co A' c' s O' co' cs W) (k : Nat) : RcS w p8 p9 A c b O co A' c' s O' co' cs (W.drewN k) := h.below (below_drewN (Below.refl _ _) k)
theorem RcS.setc (h : RcS w p8 p9 A c b O co A' c' s O' co' cs W) (i : Nat) (v : Value) : RcS w p8 p9 A c b O co A' c' s O' co' (cs.setIfInBounds i v) (W.setCell ⟨w.heap.size + 1, i, none⟩ v) :=
  ⟨h.bel.setCell (Nat.le_succ _) _, (Below.heap_setCell W _ _ _ (by simp)).trans h.z, setCell_block h.cl i v, (Below.heap_setCell W _ _ _ (by have := h.lo; show p8 ≠ w.heap.size + 1; omega)).trans h.hb, (Below.heap_setCell W _ _ _ (by have := h.lo; show p9 ≠ w.heap.size + 1; omega)).trans h.hs, own_set_low (by omega) h.ob, own_set_low (by omega) h.os, h.lo⟩
theorem RcS.two (h : RcS w p8 p9 A c b O co A' c' s O' co' cs W) (hw : Wants w w.heap.size A b) (hw' : Wants w w.heap.size A' s) (hb : OkW b) (hs : OkW s) : TwoS w p8 p9 A c b O co A' c' s O' co' W := by
  have o1 := h.ob
  have o2 := h.os
  have e1 := ordK_len κB b
  have e2 := ordK_len κS s
  rw [← e1] at o1
  rw [← e2] at o2
  exact ⟨h.bel, h.hb, h.hs, ⟨(hw.below h.bel).more h.bel.size, Reads.of_own o1, ordK_inr _ _, by have := hb.1; omega, ordK_len _ _, okw_cnt hb⟩, ⟨(hw'.below h.bel).more h.bel.size, Reads.of_own o2, ordK_inr _ _, by have := hs.1; omega, ordK_len _ _, okw_cnt hs⟩⟩
theorem RcS.cell (h : RcS w p8 p9 A c b O co A' c' s O' co' cs W) (i : Nat) : W.cell? ⟨w.heap.size + 1, i, none⟩ = cs[i]? := cell_of_row W _ i _ _ (0, 0) h.cl
theorem RcS.frozen (h : RcS w p8 p9 A c b O co A' c' s O' co' cs W) (i : Nat) : W.frozen? ⟨w.heap.size + 1, i, none⟩ = false := frozen_of_row W _ i _ _ h.cl
theorem RcS.zero (h : RcS w p8 p9 A c b O co A' c' s O' co' cs W) : W.cell? ⟨w.heap.size, 0, none⟩ = some (.int .i64 0) ∧ W.cell? ⟨w.heap.size, 1, none⟩ = some (.int .i64 0) ∧ W.cell? ⟨w.heap.size, 2, none⟩ = some (.int .i64 0) ∧ W.cell? ⟨w.heap.size, 3, none⟩ = some (.int .i64 0) ∧ W.cell? ⟨w.heap.size, 4, none⟩ = some (.slice none 0 0) ∧ W.cell? ⟨w.heap.size, 5, none⟩ = some (.slice none 0 0) ∧ ∀ i, W.frozen? ⟨w.heap.size, i, none⟩ = false :=
  ⟨cell_of_row _ _ 0 _ _ (0, 0) h.z, cell_of_row _ _ 1 _ _ (0, 0) h.z, cell_of_row _ _ 2 _ _ (0, 0) h.z, cell_of_row _ _ 3 _ _ (0, 0) h.z, cell_of_row _ _ 4 _ _ (0, 0) h.z, cell_of_row _ _ 5 _ _ (0, 0) h.z, fun i => frozen_of_row W _ i _ _ h.z⟩
end
end Go.Proofs.Ytogicdljbnllgaa
