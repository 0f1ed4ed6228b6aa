/- The walk of call.Clear. -/
import Derived.Test.YtogicdljbnllgaaGave
namespace Go.Proofs.Ytogicdljbnllgaa
open Go.Shelf Go.RowKit Go.Lib Go.Sort Go.Proofs

abbrev Called := Int × Int × Int × Int × List Int × List Int
def calledV (c : Called) (g1 g2 : Nat) : Value := .agg #[.int .i64 c.1, .int .i64 c.2.1, .int .i64 c.2.2.1, .int .i64 c.2.2.2.1, .slice (some ⟨g1, 0, none⟩) c.2.2.2.2.1.length c.2.2.2.2.1.length, .slice (some ⟨g2, 0, none⟩) c.2.2.2.2.2.length c.2.2.2.2.2.length]
def noCall : Value := .agg #[.int .i64 0, .int .i64 0, .int .i64 0, .int .i64 0, .slice none 0 0, .slice none 0 0]
def zeroC : Array Value := #[.int .i64 0, .int .i64 0, .int .i64 0, .int .i64 0, .slice none 0 0, .slice none 0 0]
def ClearP (b s : List (Int × Int)) (w : World) (e : Ending) (w' : World) : Prop :=
  Below w.heap.size w w' ∧ ((checkI b s ≠ 0 ∧ e = .returned (.tuple #[noCall, .int .i64 (checkI b s)])) ∨
    (checkI b s = 0 ∧ ∃ g1 g2, e = .returned (.tuple #[calledV (clrOf b.length s.length (RunA b s)) g1 g2, .int .i64 0]) ∧ g1 ≠ g2 ∧ w.heap.size ≤ g1 ∧ w.heap.size ≤ g2 ∧ w'.heap[g1]? = some (.cells (rowI (clrOf b.length s.length (RunA b s)).2.2.2.2.1) 3 (0, 0)) ∧ w'.heap[g2]? = some (.cells (rowI (clrOf b.length s.length (RunA b s)).2.2.2.2.2) 3 (0, 0))))
theorem made_row (n : Nat) : madeCells #[.int .i64 0] n = rowI (List.replicate n 0) := by
  apply Array.ext_getElem?
  intro i
  unfold rowI
  rw [List.map_replicate]
  by_cases h : i < n
  · simp [madeCells, h, List.getElem?_replicate, Nat.mod_one]
  · simp [madeCells, h, List.getElem?_replicate]
theorem make_int (N : Nat) (hN : N ≤ 1000000) (W : World) : (Instr.makeSlice 26 (.int .i64 (N : Int)) (.int .i64 (N : Int))).run Try.prog W = .ok (.slice (some ⟨W.heap.size, 0, none⟩) N N) (W.alloc (.cells (rowI (List.replicate N 0)) 3)) := by
  obtain ⟨i0, hi, hz, hs, hb⟩ := info_parts infoI
  have := run_make (P := Try.prog) W 26 3 i0 _ Try.underlying26 hi hz .i64 .i64 (N : Int) (N : Int) (by omega) (Int.le_refl _) (by rw [hb]; omega) (by omega)
  rw [Int.toNat_natCast, hs, Nat.mul_one] at this
  rw [← made_row]
  exact this
/-- What the start of Clear lays. -/
structure Laid (n m q g1 g2 : Nat) (w wx : World) : Prop where
  n1 : q ≠ g1
  n2 : q ≠ g2
  n3 : g1 ≠ g2
  s : w.heap.size ≤ q ∧ w.heap.size ≤ g1 ∧ w.heap.size ≤ g2
  c : Cld q g1 g2 0 0 0 0 (List.replicate n 0) (List.replicate m 0) wx
  b : Below w.heap.size w wx
/-- What the walk's trades have put down. -/
structure ClrJ (n m q g1 g2 : Nat) (w0 : World) (pre : List Trd) (X : World) : Prop where
  c : Cld q g1 g2 0 (sumT pre) (lowT pre) (highT pre) (givenB n pre) (givenS m pre) X
  os : X.os = w0.os
  tape : X.tape = w0.tape
  output : X.output = w0.output
theorem ClrJ.up {n m q g1 g2 : Nat} {w0 : World} {pre : List Trd} {X Y : World} {B : Nat} (h : ClrJ n m q g1 g2 w0 pre X) (hb : Below B X Y) (hq : q < B) (h1 : g1 < B) (h2 : g2 < B) : ClrJ n m q g1 g2 w0 pre Y :=
  ⟨h.c.below hb hq h1 h2, hb.os.trans h.os, hb.tape.trans h.tape, hb.output.trans h.output⟩
theorem clr_cb {b s : List (Int × Int)} (hb : OkW b) (hs : OkW s) {q g1 g2 : Nat} (n1 : q ≠ g1) (n2 : q ≠ g2) (n3 : g1 ≠ g2) {w0 : World} (pre : List Trd) (t : Trd) (W : World) (hp : pre ++ [t] <+: (RunA b s).1) (hj : ClrJ b.length s.length q g1 g2 w0 pre W) :
    Calls Try.prog 27 (encT t ++ #[.pointer (some ⟨q, 0, none⟩)]) W (fun e W' => OutP (fun k => k = q ∨ k = g1 ∨ k = g2) W W' ∧ ((e = .returned (.bool true) ∧ ClrJ b.length s.length q g1 g2 w0 (pre ++ [t]) W') ∨ (e = .returned (.bool false) ∧ False))) := by
  have hmem : ∀ u ∈ pre ++ [t], u ∈ (RunA b s).1 := fun u hu => hp.subset hu
  obtain ⟨⟨a0, a1⟩, ⟨c0, c1⟩, ⟨d0, d1⟩, _⟩ := run_trd hb hs (hmem t (by simp))
  obtain ⟨⟨bw, bc⟩, ⟨sw, sc⟩, n⟩ := t
  simp only at a0 a1 c0 c1 d0 d1
  obtain ⟨i, rfl⟩ : ∃ i : Nat, bw = i := ⟨bw.toNat, by omega⟩
  obtain ⟨k, rfl⟩ : ∃ i : Nat, sw = i := ⟨sw.toNat, by omega⟩
  have hlen : pre.length + 1 ≤ 8192 := by
    have h1 := hp.length_le
    have h2 := run_few hb hs
    have h3 := hb.1
    have h4 := hs.1
    simp only [List.length_append, List.length_singleton] at h1
    omega
  have hin : ∀ u ∈ pre, 0 ≤ u.2.2 ∧ u.2.2 ≤ 64 := fun u hu => by
    have := (run_trd hb hs (hmem u (by simp [hu]))).2.2.1
    omega
  have hb1 := fold_bound (fun t => t.1.1.toNat) pre (List.replicate b.length 0) 0 hin (by omega) (fun x hx => by rw [List.eq_of_mem_replicate hx]; omega)
  have hb2 := fold_bound (fun t => t.2.1.1.toNat) pre (List.replicate s.length 0) 0 hin (by omega) (fun x hx => by rw [List.eq_of_mem_replicate hx]; omega)
  have hb3 := sumT_bound pre hin
  have hlb := givenB_len b.length pre
  have hls := givenS_len s.length pre
  have hi : i < (givenB b.length pre).length := by omega
  have hk : k < (givenS s.length pre).length := by omega
  have hz1 : (givenB b.length pre)[i]? = some ((givenB b.length pre).getD i 0) := by rw [List.getD_eq_getElem?_getD, List.getElem?_eq_getElem hi]; rfl
  have hz2 : (givenS s.length pre)[k]? = some ((givenS s.length pre).getD k 0) := by rw [List.getD_eq_getElem?_getD, List.getElem?_eq_getElem hk]; rfl
  have hv1 := hb1 _ (List.mem_of_getElem? hz1)
  have hv2 := hb2 _ (List.mem_of_getElem? hz2)
  refine (clear1_any q g1 g2 n1 n2 n3 0 (sumT pre) (lowT pre) (highT pre) (givenB b.length pre) (givenS s.length pre) i k bc sc n _ _ W hj.c hz1 hz2 (by have := hb.1; have := hs.1; omega) (by omega) (by omega)).mono ?_
  rintro e W' ⟨rfl, ht, hc⟩
  refine ⟨⟨ht.size, ht.block⟩, .inl ⟨rfl, ⟨?_, ht.os.trans hj.os, ht.tape.trans hj.tape, ht.output.trans hj.output⟩⟩⟩
  rw [sumT_snoc, lowT_snoc, highT_snoc, givenB_snoc, givenS_snoc]
  exact hc
/-- A unit's coins are ones that may be. -/
theorem run_unit {bs ss : List Tri} {g w : Int} {M : Int} (hm : MidW bs ss g w) (hb : ∀ x ∈ bs, 0 ≤ x.2.1 ∧ x.2.1 ≤ M) (hs : ∀ x ∈ ss, 0 ≤ x.2.1 ∧ x.2.1 ≤ M) : (∀ u, (runW bs ss g w).2.1 = some u → 0 ≤ u.2 ∧ u.2 ≤ M) ∧ (∀ u, (runW bs ss g w).2.2 = some u → 0 ≤ u.2 ∧ u.2 ≤ M) := by
  refine run_ind (P := fun bs ss g w => (∀ x ∈ bs, 0 ≤ x.2.1 ∧ x.2.1 ≤ M) → (∀ x ∈ ss, 0 ≤ x.2.1 ∧ x.2.1 ≤ M) → (∀ u, (runW bs ss g w).2.1 = some u → 0 ≤ u.2 ∧ u.2 ≤ M) ∧ (∀ u, (runW bs ss g w).2.2 = some u → 0 ≤ u.2 ∧ u.2 ≤ M)) ?_ ?_ ?_ ?_ ?_ ?_ (bs.length + ss.length) bs ss g w (Nat.le_refl _) hm hb hs
  · intro ss g w _ _ h
    rw [runW_nil']
    refine ⟨fun u hu => (by cases hu), fun u hu => ?_⟩
    cases ss with
    | nil => cases hu
    | cons y ss => cases hu; exact h y List.mem_cons_self
  · intro x bs g w _ h _
    rw [runW_nil]
    exact ⟨fun u hu => by cases hu; exact h x List.mem_cons_self, fun u hu => by cases hu⟩
  · intro x y bs ss g w _ hlow h h'
    rw [runW_low _ _ _ _ hlow]
    exact ⟨fun u hu => by cases hu; exact h x List.mem_cons_self, fun u hu => by cases hu; exact h' y List.mem_cons_self⟩
  · intro x y bs ss g w hm hlow hlt ih h h'
    rw [runW_b _ _ _ _ hlow hlt]
    exact ih (fun z hz => h z (List.mem_cons_of_mem _ hz)) h'
  · intro x y bs ss g w hm hlow hgt ih h h'
    rw [runW_s _ _ _ _ hlow hgt]
    exact ih h (fun z hz => h' z (List.mem_cons_of_mem _ hz))
  · intro x y bs ss g w hm hlow heq ih h h'
    rw [runW_e _ _ _ _ hlow heq]
    exact ih (fun z hz => h z (List.mem_cons_of_mem _ hz)) (fun z hz => h' z (List.mem_cons_of_mem _ hz))
theorem ordT_coins {κ : Int × Int → Int} {l : List (Int × Int)} (h : OkW l) : ∀ x ∈ ordT l (ordK κ l), 0 ≤ x.2.1 ∧ x.2.1 ≤ 1099511627776 := fun x hx => by
  have := h.2 x.2 (List.mem_of_getElem? (ordT_mem hx).2.2)
  omega
theorem run_units {b s : List (Int × Int)} (hb : OkW b) (hs : OkW s) : (∀ u, (RunA b s).2.1 = some u → 0 ≤ u.2 ∧ u.2 ≤ 1099511627776) ∧ (∀ u, (RunA b s).2.2 = some u → 0 ≤ u.2 ∧ u.2 ≤ 1099511627776) := run_unit (hb.mid hs) (ordT_coins hb) (ordT_coins hs)
theorem run_ends {b s : List (Int × Int)} (hb : OkW b) (hs : OkW s) (hne : (RunA b s).1 ≠ []) : (0 ≤ lowT (RunA b s).1 ∧ lowT (RunA b s).1 ≤ 1099511627776) ∧ (0 ≤ highT (RunA b s).1 ∧ highT (RunA b s).1 ≤ 1099511627776) := by
  obtain ⟨t, ht⟩ : ∃ t, (RunA b s).1.getLast? = some t := ⟨_, List.getLast?_eq_some_getLast hne⟩
  obtain ⟨_, _, _, ⟨c, h1⟩, ⟨c', h2⟩, _⟩ := run_trd hb hs (List.mem_of_getLast? ht)
  have k1 := hb.2 _ (List.mem_of_getElem? h1)
  have k2 := hs.2 _ (List.mem_of_getElem? h2)
  unfold lowT highT
  rw [ht]
  simp only [Option.map_some, Option.getD_some]
  omega
theorem not_of {B : Nat} {size n : Nat} {A : Option Addr} {xs : List Value} {w : World} (h : Reads w B size A n xs) {q g1 g2 : Nat} (hq : B ≤ q ∧ B ≤ g1 ∧ B ≤ g2) : 0 < n → ∀ x, A = some x → ¬ (x.block = q ∨ x.block = g1 ∨ x.block = g2) := fun hn x hx => by
  obtain ⟨b, o, e, hb, _⟩ := h.2 hn
  rw [e] at hx
  injection hx with hx
  subst hx
  simp only
  omega
theorem six_below {w W : World} {B q : Nat} (h : Below B w W) (hq : B ≤ q) (v0 v1 v2 v3 v4 v5 : Value) : Below B w ((((((W.setCell ⟨q, 0, none⟩ v0).setCell ⟨q, 1, none⟩ v1).setCell ⟨q, 2, none⟩ v2).setCell ⟨q, 3, none⟩ v3).setCell ⟨q, 4, none⟩ v4).setCell ⟨q, 5, none⟩ v5) :=
  (((((h.setCell hq _).setCell hq _).setCell hq _).setCell hq _).setCell hq _).setCell hq _
theorem six_far {W : World} {q k : Nat} (hk : k ≠ q) (v0 v1 v2 v3 v4 v5 : Value) : ((((((W.setCell ⟨q, 0, none⟩ v0).setCell ⟨q, 1, none⟩ v1).setCell ⟨q, 2, none⟩ v2).setCell ⟨q, 3, none⟩ v3).setCell ⟨q, 4, none⟩ v4).setCell ⟨q, 5, none⟩ v5).heap[k]? = W.heap[k]? := by
  have key : ∀ (X : World) (i : Nat) (v : Value), (X.setCell ⟨q, i, none⟩ v).heap[k]? = X.heap[k]? := fun X i v => Below.heap_setCell X ⟨q, i, none⟩ v k hk
  simp only [key]

theorem zero_cells {W : World} {q : Nat} (h : W.heap[q]? = some (.cells zeroC 28 (0, 0))) : W.cell? ⟨q, 0, none⟩ = some (.int .i64 0) ∧ W.cell? ⟨q, 1, none⟩ = some (.int .i64 0) ∧ W.cell? ⟨q, 2, none⟩ = some (.int .i64 0) ∧ W.cell? ⟨q, 3, none⟩ = some (.int .i64 0) ∧ W.cell? ⟨q, 4, none⟩ = some (.slice none 0 0) ∧ W.cell? ⟨q, 5, none⟩ = some (.slice none 0 0) ∧ ∀ i, W.frozen? ⟨q, i, none⟩ = false :=
  ⟨cell_of_row W _ 0 _ _ (0, 0) h, cell_of_row W _ 1 _ _ (0, 0) h, cell_of_row W _ 2 _ _ (0, 0) h, cell_of_row W _ 3 _ _ (0, 0) h, cell_of_row W _ 4 _ _ (0, 0) h, cell_of_row W _ 5 _ _ (0, 0) h, fun i => frozen_of_row W _ i _ _ h⟩
/-- Where Clear stands behind the walk. -/
structure ClrS (q g1 g2 p : Nat) (w : World) (pr tr lo hi : Int) (l1 l2 : List Int) (W : World) : Prop where
  c : Cld q g1 g2 pr tr lo hi l1 l2 W
  z : W.heap[p]? = some (.cells zeroC 28 (0, 0))
  b : Below w.heap.size w W
theorem ClrS.drew {q g1 g2 p : Nat} {w W : World} {pr tr lo hi : Int} {l1 l2 : List Int} (h : ClrS q g1 g2 p w pr tr lo hi l1 l2 W) : ClrS q g1 g2 p w pr tr lo hi l1 l2 W.drew := ⟨⟨h.c.bq, h.c.b1, h.c.b2⟩, h.z, ⟨h.b.os, h.b.tape, h.b.output, h.b.size, h.b.block⟩⟩
theorem ClrS.setq {q g1 g2 p : Nat} {w W : World} {pr tr lo hi : Int} {l1 l2 : List Int} (h : ClrS q g1 g2 p w pr tr lo hi l1 l2 W) (n1 : q ≠ g1) (n2 : q ≠ g2) (hp : p < q) (hw : w.heap.size ≤ p) (z : Int) : ClrS q g1 g2 p w z tr lo hi l1 l2 (W.setCell ⟨q, 0, none⟩ (.int .i64 z)) ∧ ClrS q g1 g2 p w pr tr z hi l1 l2 (W.setCell ⟨q, 2, none⟩ (.int .i64 z)) ∧ ClrS q g1 g2 p w pr tr lo z l1 l2 (W.setCell ⟨q, 3, none⟩ (.int .i64 z)) := by
  obtain ⟨h0, _, h2, h3⟩ := h.c.setq n1 n2 z
  have hz : ∀ i, (W.setCell ⟨q, i, none⟩ (.int .i64 z)).heap[p]? = some (.cells zeroC 28 (0, 0)) := fun i => (Below.heap_setCell W ⟨q, i, none⟩ _ _ (Nat.ne_of_lt hp)).trans h.z
  have hb : ∀ i, Below w.heap.size w (W.setCell ⟨q, i, none⟩ (.int .i64 z)) := fun i => h.b.setCell (by show w.heap.size ≤ q; omega) _
  exact ⟨⟨h0, hz 0, hb 0⟩, ⟨h2, hz 2, hb 2⟩, ⟨h3, hz 3, hb 3⟩⟩
theorem clear_end {b s : List (Int × Int)} {q g1 g2 : Nat} {w W : World} {pr tr lo hi : Int} {l1 l2 : List Int} (h : ClrS q g1 g2 w.heap.size w pr tr lo hi l1 l2 W) (hk : checkI b s = 0) (n3 : g1 ≠ g2) (hs : w.heap.size < q ∧ w.heap.size < g1 ∧ w.heap.size < g2) (hcl : clrOf b.length s.length (RunA b s) = (pr, tr, lo, hi, l1, l2)) (v0 v1 v2 v3 v4 v5 : Value) :
    ClearP b s w (.returned (.tuple #[.agg #[.int .i64 pr, .int .i64 tr, .int .i64 lo, .int .i64 hi, .slice (some ⟨g1, 0, none⟩) l1.length l1.length, .slice (some ⟨g2, 0, none⟩) l2.length l2.length], .int .i64 0])) ((((((W.setCell ⟨w.heap.size, 0, none⟩ v0).setCell ⟨w.heap.size, 1, none⟩ v1).setCell ⟨w.heap.size, 2, none⟩ v2).setCell ⟨w.heap.size, 3, none⟩ v3).setCell ⟨w.heap.size, 4, none⟩ v4).setCell ⟨w.heap.size, 5, none⟩ v5) := by
  refine ⟨six_below h.b (Nat.le_refl _) _ _ _ _ _ _, .inr ⟨hk, g1, g2, ?_, n3, by omega, by omega, ?_, ?_⟩⟩
  · rw [hcl]; rfl
  · rw [hcl]; exact (six_far (by omega) _ _ _ _ _ _).trans h.c.b1
  · rw [hcl]; exact (six_far (by omega) _ _ _ _ _ _).trans h.c.b2
theorem unit_far {W : World} {k q : Nat} {x y : Value} {cs : Array Value} (h : W.heap[k]? = some (.cells #[x, y] 68 (0, 0))) (hq : W.heap[q]? = some (.cells cs 28 (0, 0))) : k ≠ q := by
  rintro rfl
  rw [h] at hq
  injection hq with hq
  injection hq with _ hq _
  exact absurd hq (by decide)
theorem tdiv2 {z M : Int} (h : -M ≤ z ∧ z ≤ M) : -M ≤ z.tdiv 2 ∧ z.tdiv 2 ≤ M := by
  by_cases h0 : 0 ≤ z
  · rw [Int.tdiv_eq_ediv_of_nonneg h0]; omega
  · have : z.tdiv 2 = -((-z).tdiv 2) := by rw [Int.neg_tdiv]; omega
    rw [this, Int.tdiv_eq_ediv_of_nonneg (by omega)]; omega
set_option maxRecDepth 100000 in
set_option maxHeartbeats 8000000 in
theorem clear_any (A : Option Addr) (c : Nat) (b : List (Int × Int)) (A' : Option Addr) (c' : Nat) (s : List (Int × Int)) (w : World) (h : Wants w w.heap.size A b) (h' : Wants w w.heap.size A' s) :
    Calls Try.prog 11 #[.slice A b.length c, .slice A' s.length c'] w (ClearP b s w) := by
  have HW := hide h
  have HW' := hide h'
  have hb0 : Below w.heap.size w (w.alloc (.cells zeroC 28)) := (Below.refl _ _).alloc (Nat.le_refl _) _
  have HB0 := hide hb0
  have HZ0 : Hid ((w.alloc (.cells zeroC 28)).heap[w.heap.size]? = some (.cells zeroC 28 (0, 0))) := hide (heap_alloc_new w _)
  have HC := hide (check_any A c b A' c' s (w.alloc (.cells zeroC 28)) ((h.below hb0).more hb0.size) ((h'.below hb0).more hb0.size))
  clear h h' hb0
  go_enter Try.func11, Try.ntmps11
  go_upto_region 1 with fail
  rw [show (#[.int .i64 0, .int .i64 0, .int .i64 0, .int .i64 0, .slice none 0 0, .slice none 0 0] : Array Value) = zeroC from rfl]
  generalize w.alloc (.cells zeroC 28) = w0 at *
  by_cases hk : checkI b s = 0
  · have HOK := hide (ok_of_check hk)
    have HK := hide hk
    simp only [hk] at HC
    go_upto_region 2 with (go_at_call 18; refine (HC.out).mono ?_; rintro e w1 ⟨rfl, hb1⟩; have HB1 := hide hb1; clear hb1)
    have HZ1 := hide ((HB1.out.block _ (lt_of_block HZ0.out)).trans HZ0.out)
    have HBW := hide (HB0.out.trans (HB1.out.mono HB0.out.size))
    clear hk HC HZ0 HB0 HB1
    go_upto_region 4 with fail
    go_cut [7] from 17 to 23 (fun v wx => ∃ q g1 g2, v = .pointer (some ⟨q, 0, none⟩) ∧ Laid b.length s.length q g1 g2 w1 wx)
    case first =>
      have hmk1 := make_int b.length (by have := HOK.out.1.1; omega)
      have hmk2 := make_int s.length (by have := HOK.out.2.1; omega)
      have HBD : Hid (Below w1.heap.size w1 w1.drew) := hide ⟨rfl, rfl, rfl, Nat.le_refl _, fun _ _ => rfl⟩
      refine wp_region_U 9 (fun _ => True) rfl trivial (fun hHeld => ?_)
      generalize w1.drew = wd at *
      refine AnyU.take (i := 0) (v := ?v201) rfl (by kernel_rfl) (by kernel_rfl) (by kernel_rfl) (by kernel_rfl) (fun _ _ _ h => h) (Or.inl ⟨by rfl, ?hy201⟩) hHeld ?r201
      case hy201 => (intro w hSw; (try dsimp only at hSw); go_simp <;> with_reducible rfl)
      simp only [Act.put, List.setIfInBounds_toArray, List.set_cons_zero, List.set_cons_succ]
      refine AnyU.take (i := 1) (v := ?v202) rfl (by kernel_rfl) (by kernel_rfl) (by kernel_rfl) (by kernel_rfl) (fun _ _ _ h => h) (Or.inl ⟨by rfl, ?hy202⟩) hHeld ?r202
      case hy202 => (intro w hSw; (try dsimp only at hSw); go_simp <;> with_reducible rfl)
      simp only [Act.put, List.setIfInBounds_toArray, List.set_cons_zero, List.set_cons_succ]
      refine AnyU.take (i := 3) (v := ?v203) rfl (by kernel_rfl) (by kernel_rfl) (by kernel_rfl) (by kernel_rfl) (fun _ _ _ h => h) (Or.inl ⟨by rfl, ?hy203⟩) hHeld ?r203
      case hy203 => (intro w hSw; (try dsimp only at hSw); go_simp <;> with_reducible rfl)
      simp only [Act.put, List.setIfInBounds_toArray, List.set_cons_zero, List.set_cons_succ]
      refine AnyU.take (i := 4) (v := ?v204) rfl (by kernel_rfl) (by kernel_rfl) (by kernel_rfl) (by kernel_rfl) (fun _ _ _ h => h) (Or.inl ⟨by rfl, ?hy204⟩) hHeld ?r204
      case hy204 => (intro w hSw; (try dsimp only at hSw); go_simp <;> with_reducible rfl)
      simp only [Act.put, List.setIfInBounds_toArray, List.set_cons_zero, List.set_cons_succ]
      refine AnyU.next (js := [2, 5, 7]) (by kernel_rfl) (by simp) (NextU.cons rfl (fun K hK => ?_) (NextU.cons rfl (fun K hK => ?_) (NextU.cons rfl (fun K hK => ?_) (NextU.nil))))
      · go_simp
        refine hK.out _ _ (fun _ => trivial) (fun hHeld => ?_)
        replace hHeld := hHeld (by decide)
        try simp only [Act.put, List.setIfInBounds_toArray, List.set_cons_zero, List.set_cons_succ]
        refine AnyU.next (js := [5, 7]) (by kernel_rfl) (by simp) (NextU.cons rfl (fun K hK => ?_) (NextU.cons rfl (fun K hK => ?_) (NextU.nil)))
        · go_simp
          refine hK.out _ _ (fun _ => trivial) (fun hHeld => ?_)
          replace hHeld := hHeld (by decide)
          try simp only [Act.put, List.setIfInBounds_toArray, List.set_cons_zero, List.set_cons_succ]
          refine AnyU.take (i := 6) (v := ?v205) rfl (by kernel_rfl) (by kernel_rfl) (by kernel_rfl) (by kernel_rfl) (fun _ _ _ h => h) (Or.inl ⟨by rfl, ?hy205⟩) hHeld ?r205
          case hy205 => (intro w hSw; (try dsimp only at hSw); go_simp <;> with_reducible rfl)
          simp only [Act.put, List.setIfInBounds_toArray, List.set_cons_zero, List.set_cons_succ]
          refine AnyU.next (js := [7]) (by kernel_rfl) (by simp) (NextU.cons rfl (fun K hK => ?_) (NextU.nil))
          go_simp
          refine hK.out _ _ (fun _ => trivial) (fun hHeld => ?_)
          replace hHeld := hHeld (by decide)
          try simp only [Act.put, List.setIfInBounds_toArray, List.set_cons_zero, List.set_cons_succ]
          refine AnyU.next (js := [8]) (by kernel_rfl) (by simp) (NextU.cons rfl (fun K hK => ?_) NextU.nil)
          go_simp
          refine hK.out _ _ (fun _ => trivial) (fun hHeld => ?_)
          try simp only [Act.put, List.setIfInBounds_toArray, List.set_cons_zero, List.set_cons_succ]
          refine AnyU.over (by kernel_rfl) ?_ _
          go_wp2_with fail
          go_meet
          obtain ⟨z0, z1, z2, z3⟩ := three wd (.cells (rowI (List.replicate b.length 0)) 3) (.cells (rowI (List.replicate s.length 0)) 3) (.cells #[.int .i64 0, .int .i64 0, .int .i64 0, .int .i64 0, .slice (some ⟨wd.heap.size, 0, none⟩) b.length b.length, .slice (some ⟨wd.heap.size + 1, 0, none⟩) s.length s.length] 28)
          exact ⟨wd.heap.size + 1 + 1, wd.heap.size, wd.heap.size + 1, rfl, ⟨by omega, by omega, by omega, by have := HBD.out.size; omega, ⟨by rw [List.length_replicate, List.length_replicate]; exact z2, z0, z1⟩, HBD.out.trans (z3.mono HBD.out.size)⟩⟩
        · go_simp
          refine hK.out _ _ (fun _ => trivial) (fun hHeld => ?_)
          replace hHeld := hHeld (by decide)
          try simp only [Act.put, List.setIfInBounds_toArray, List.set_cons_zero, List.set_cons_succ]
          refine AnyU.next (js := [5]) (by kernel_rfl) (by simp) (NextU.cons rfl (fun K hK => ?_) (NextU.nil))
          go_simp
          refine hK.out _ _ (fun _ => trivial) (fun hHeld => ?_)
          replace hHeld := hHeld (by decide)
          try simp only [Act.put, List.setIfInBounds_toArray, List.set_cons_zero, List.set_cons_succ]
          refine AnyU.take (i := 6) (v := ?v206) rfl (by kernel_rfl) (by kernel_rfl) (by kernel_rfl) (by kernel_rfl) (fun _ _ _ h => h) (Or.inl ⟨by rfl, ?hy206⟩) hHeld ?r206
          case hy206 => (intro w hSw; (try dsimp only at hSw); go_simp <;> with_reducible rfl)
          simp only [Act.put, List.setIfInBounds_toArray, List.set_cons_zero, List.set_cons_succ]
          refine AnyU.next (js := [8]) (by kernel_rfl) (by simp) (NextU.cons rfl (fun K hK => ?_) NextU.nil)
          go_simp
          refine hK.out _ _ (fun _ => trivial) (fun hHeld => ?_)
          try simp only [Act.put, List.setIfInBounds_toArray, List.set_cons_zero, List.set_cons_succ]
          refine AnyU.over (by kernel_rfl) ?_ _
          go_wp2_with fail
          go_meet
          obtain ⟨z0, z1, z2, z3⟩ := three wd (.cells (rowI (List.replicate b.length 0)) 3) (.cells #[.int .i64 0, .int .i64 0, .int .i64 0, .int .i64 0, .slice (some ⟨wd.heap.size, 0, none⟩) b.length b.length, .slice (some ⟨wd.heap.size + 1 + 1, 0, none⟩) s.length s.length] 28) (.cells (rowI (List.replicate s.length 0)) 3)
          exact ⟨wd.heap.size + 1, wd.heap.size, wd.heap.size + 1 + 1, rfl, ⟨by omega, by omega, by omega, by have := HBD.out.size; omega, ⟨by rw [List.length_replicate, List.length_replicate]; exact z1, z0, z2⟩, HBD.out.trans (z3.mono HBD.out.size)⟩⟩
      · go_simp
        refine hK.out _ _ (fun _ => trivial) (fun hHeld => ?_)
        replace hHeld := hHeld (by decide)
        try simp only [Act.put, List.setIfInBounds_toArray, List.set_cons_zero, List.set_cons_succ]
        refine AnyU.next (js := [2, 7]) (by kernel_rfl) (by simp) (NextU.cons rfl (fun K hK => ?_) (NextU.cons rfl (fun K hK => ?_) (NextU.nil)))
        · go_simp
          refine hK.out _ _ (fun _ => trivial) (fun hHeld => ?_)
          replace hHeld := hHeld (by decide)
          try simp only [Act.put, List.setIfInBounds_toArray, List.set_cons_zero, List.set_cons_succ]
          refine AnyU.take (i := 6) (v := ?v207) rfl (by kernel_rfl) (by kernel_rfl) (by kernel_rfl) (by kernel_rfl) (fun _ _ _ h => h) (Or.inl ⟨by rfl, ?hy207⟩) hHeld ?r207
          case hy207 => (intro w hSw; (try dsimp only at hSw); go_simp <;> with_reducible rfl)
          simp only [Act.put, List.setIfInBounds_toArray, List.set_cons_zero, List.set_cons_succ]
          refine AnyU.next (js := [7]) (by kernel_rfl) (by simp) (NextU.cons rfl (fun K hK => ?_) (NextU.nil))
          go_simp
          refine hK.out _ _ (fun _ => trivial) (fun hHeld => ?_)
          replace hHeld := hHeld (by decide)
          try simp only [Act.put, List.setIfInBounds_toArray, List.set_cons_zero, List.set_cons_succ]
          refine AnyU.next (js := [8]) (by kernel_rfl) (by simp) (NextU.cons rfl (fun K hK => ?_) NextU.nil)
          go_simp
          refine hK.out _ _ (fun _ => trivial) (fun hHeld => ?_)
          try simp only [Act.put, List.setIfInBounds_toArray, List.set_cons_zero, List.set_cons_succ]
          refine AnyU.over (by kernel_rfl) ?_ _
          go_wp2_with fail
          go_meet
          obtain ⟨z0, z1, z2, z3⟩ := three wd (.cells (rowI (List.replicate s.length 0)) 3) (.cells (rowI (List.replicate b.length 0)) 3) (.cells #[.int .i64 0, .int .i64 0, .int .i64 0, .int .i64 0, .slice (some ⟨wd.heap.size + 1, 0, none⟩) b.length b.length, .slice (some ⟨wd.heap.size, 0, none⟩) s.length s.length] 28)
          exact ⟨wd.heap.size + 1 + 1, wd.heap.size + 1, wd.heap.size, rfl, ⟨by omega, by omega, by omega, by have := HBD.out.size; omega, ⟨by rw [List.length_replicate, List.length_replicate]; exact z2, z1, z0⟩, HBD.out.trans (z3.mono HBD.out.size)⟩⟩
        · go_simp
          refine hK.out _ _ (fun _ => trivial) (fun hHeld => ?_)
          replace hHeld := hHeld (by decide)
          try simp only [Act.put, List.setIfInBounds_toArray, List.set_cons_zero, List.set_cons_succ]
          refine AnyU.next (js := [2]) (by kernel_rfl) (by simp) (NextU.cons rfl (fun K hK => ?_) (NextU.nil))
          go_simp
          refine hK.out _ _ (fun _ => trivial) (fun hHeld => ?_)
          replace hHeld := hHeld (by decide)
          try simp only [Act.put, List.setIfInBounds_toArray, List.set_cons_zero, List.set_cons_succ]
          refine AnyU.take (i := 6) (v := ?v208) rfl (by kernel_rfl) (by kernel_rfl) (by kernel_rfl) (by kernel_rfl) (fun _ _ _ h => h) (Or.inl ⟨by rfl, ?hy208⟩) hHeld ?r208
          case hy208 => (intro w hSw; (try dsimp only at hSw); go_simp <;> with_reducible rfl)
          simp only [Act.put, List.setIfInBounds_toArray, List.set_cons_zero, List.set_cons_succ]
          refine AnyU.next (js := [8]) (by kernel_rfl) (by simp) (NextU.cons rfl (fun K hK => ?_) NextU.nil)
          go_simp
          refine hK.out _ _ (fun _ => trivial) (fun hHeld => ?_)
          try simp only [Act.put, List.setIfInBounds_toArray, List.set_cons_zero, List.set_cons_succ]
          refine AnyU.over (by kernel_rfl) ?_ _
          go_wp2_with fail
          go_meet
          obtain ⟨z0, z1, z2, z3⟩ := three wd (.cells (rowI (List.replicate s.length 0)) 3) (.cells #[.int .i64 0, .int .i64 0, .int .i64 0, .int .i64 0, .slice (some ⟨wd.heap.size + 1 + 1, 0, none⟩) b.length b.length, .slice (some ⟨wd.heap.size, 0, none⟩) s.length s.length] 28) (.cells (rowI (List.replicate b.length 0)) 3)
          exact ⟨wd.heap.size + 1, wd.heap.size + 1 + 1, wd.heap.size, rfl, ⟨by omega, by omega, by omega, by have := HBD.out.size; omega, ⟨by rw [List.length_replicate, List.length_replicate]; exact z1, z2, z0⟩, HBD.out.trans (z3.mono HBD.out.size)⟩⟩
      · go_simp
        refine hK.out _ _ (fun _ => trivial) (fun hHeld => ?_)
        replace hHeld := hHeld (by decide)
        try simp only [Act.put, List.setIfInBounds_toArray, List.set_cons_zero, List.set_cons_succ]
        refine AnyU.next (js := [2, 5]) (by kernel_rfl) (by simp) (NextU.cons rfl (fun K hK => ?_) (NextU.cons rfl (fun K hK => ?_) (NextU.nil)))
        · go_simp
          refine hK.out _ _ (fun _ => trivial) (fun hHeld => ?_)
          replace hHeld := hHeld (by decide)
          try simp only [Act.put, List.setIfInBounds_toArray, List.set_cons_zero, List.set_cons_succ]
          refine AnyU.next (js := [5]) (by kernel_rfl) (by simp) (NextU.cons rfl (fun K hK => ?_) (NextU.nil))
          go_simp
          refine hK.out _ _ (fun _ => trivial) (fun hHeld => ?_)
          replace hHeld := hHeld (by decide)
          try simp only [Act.put, List.setIfInBounds_toArray, List.set_cons_zero, List.set_cons_succ]
          refine AnyU.take (i := 6) (v := ?v209) rfl (by kernel_rfl) (by kernel_rfl) (by kernel_rfl) (by kernel_rfl) (fun _ _ _ h => h) (Or.inl ⟨by rfl, ?hy209⟩) hHeld ?r209
          case hy209 => (intro w hSw; (try dsimp only at hSw); go_simp <;> with_reducible rfl)
          simp only [Act.put, List.setIfInBounds_toArray, List.set_cons_zero, List.set_cons_succ]
          refine AnyU.next (js := [8]) (by kernel_rfl) (by simp) (NextU.cons rfl (fun K hK => ?_) NextU.nil)
          go_simp
          refine hK.out _ _ (fun _ => trivial) (fun hHeld => ?_)
          try simp only [Act.put, List.setIfInBounds_toArray, List.set_cons_zero, List.set_cons_succ]
          refine AnyU.over (by kernel_rfl) ?_ _
          go_wp2_with fail
          go_meet
          obtain ⟨z0, z1, z2, z3⟩ := three wd (.cells #[.int .i64 0, .int .i64 0, .int .i64 0, .int .i64 0, .slice (some ⟨wd.heap.size + 1, 0, none⟩) b.length b.length, .slice (some ⟨wd.heap.size + 1 + 1, 0, none⟩) s.length s.length] 28) (.cells (rowI (List.replicate b.length 0)) 3) (.cells (rowI (List.replicate s.length 0)) 3)
          exact ⟨wd.heap.size, wd.heap.size + 1, wd.heap.size + 1 + 1, rfl, ⟨by omega, by omega, by omega, by have := HBD.out.size; omega, ⟨by rw [List.length_replicate, List.length_replicate]; exact z0, z1, z2⟩, HBD.out.trans (z3.mono HBD.out.size)⟩⟩
        · go_simp
          refine hK.out _ _ (fun _ => trivial) (fun hHeld => ?_)
          replace hHeld := hHeld (by decide)
          try simp only [Act.put, List.setIfInBounds_toArray, List.set_cons_zero, List.set_cons_succ]
          refine AnyU.next (js := [2]) (by kernel_rfl) (by simp) (NextU.cons rfl (fun K hK => ?_) (NextU.nil))
          go_simp
          refine hK.out _ _ (fun _ => trivial) (fun hHeld => ?_)
          replace hHeld := hHeld (by decide)
          try simp only [Act.put, List.setIfInBounds_toArray, List.set_cons_zero, List.set_cons_succ]
          refine AnyU.take (i := 6) (v := ?v210) rfl (by kernel_rfl) (by kernel_rfl) (by kernel_rfl) (by kernel_rfl) (fun _ _ _ h => h) (Or.inl ⟨by rfl, ?hy210⟩) hHeld ?r210
          case hy210 => (intro w hSw; (try dsimp only at hSw); go_simp <;> with_reducible rfl)
          simp only [Act.put, List.setIfInBounds_toArray, List.set_cons_zero, List.set_cons_succ]
          refine AnyU.next (js := [8]) (by kernel_rfl) (by simp) (NextU.cons rfl (fun K hK => ?_) NextU.nil)
          go_simp
          refine hK.out _ _ (fun _ => trivial) (fun hHeld => ?_)
          try simp only [Act.put, List.setIfInBounds_toArray, List.set_cons_zero, List.set_cons_succ]
          refine AnyU.over (by kernel_rfl) ?_ _
          go_wp2_with fail
          go_meet
          obtain ⟨z0, z1, z2, z3⟩ := three wd (.cells #[.int .i64 0, .int .i64 0, .int .i64 0, .int .i64 0, .slice (some ⟨wd.heap.size + 1 + 1, 0, none⟩) b.length b.length, .slice (some ⟨wd.heap.size + 1, 0, none⟩) s.length s.length] 28) (.cells (rowI (List.replicate s.length 0)) 3) (.cells (rowI (List.replicate b.length 0)) 3)
          exact ⟨wd.heap.size, wd.heap.size + 1 + 1, wd.heap.size + 1, rfl, ⟨by omega, by omega, by omega, by have := HBD.out.size; omega, ⟨by rw [List.length_replicate, List.length_replicate]; exact z0, z2, z1⟩, HBD.out.trans (z3.mono HBD.out.size)⟩⟩
    case rest =>
      obtain ⟨q, g1, g2, rfl, hla⟩ := hcut
      have HLA := hide hla
      clear hla
      have HBC := hide (HBW.out.trans (HLA.out.b.mono HBW.out.size))
      have HQS : Hid (w.heap.size < q ∧ w.heap.size < g1 ∧ w.heap.size < g2) := hide (by have h1 := lt_of_block HZ1.out; have h2 := HLA.out.s; omega)
      have hcc := HLA.out.c
      have HWA := hide (walk_any (fun k => k = q ∨ k = g1 ∨ k = g2) (ClrJ b.length s.length q g1 g2 wc) (fun _ _ => False) 27 #[.pointer (some ⟨q, 0, none⟩)] A c b A' c' s wc ((HW.out.below HBC.out).more HBC.out.size) ((HW'.out.below HBC.out).more HBC.out.size) (by have := HOK.out.1.1; omega) (by have := HOK.out.2.1; omega) (HOK.out.1.count _) (HOK.out.2.count _) (enters_of Try.func27 (by kernel_rfl) rfl)
        (fun pre X Y hj hb => hj.up hb (lt_of_block hcc.bq) (lt_of_block hcc.b1) (lt_of_block hcc.b2)) (fun i hi => by have h1 := lt_of_block hcc.bq; have h2 := lt_of_block hcc.b1; have h3 := lt_of_block hcc.b2; omega) (not_of HW.out (by have := HQS.out; omega)) (not_of HW'.out (by have := HQS.out; omega))
        (fun pre t W hp hj _ => clr_cb HOK.out.1 HOK.out.2 HLA.out.n1 HLA.out.n2 HLA.out.n3 pre t W hp hj) ⟨hcc, rfl, rfl, rfl⟩)
      clear hcc
      have HRU := hide (run_units HOK.out.1 HOK.out.2)
      have HRE := hide (run_ends HOK.out.1 HOK.out.2)
      have HRP : Hid ((RunA b s).1 ≠ [] → 0 < sumT (RunA b s).1) := hide (sumT_pos _ (fun t ht => (run_trd HOK.out.1 HOK.out.2 ht).2.2.1.1))
      go_upto_region 6 with (go_at_call 26; refine (HWA.out).mono ?_; rintro e w5 ⟨ho5, (⟨nv, ov, rfl, hn5, ho5', hj5⟩ | ⟨_, _, _, hf⟩)⟩; rotate_left; exact hf.elim; have HO5 := hide ho5; have HN5 := hide hn5; have HV5 := hide ho5'; have HJ5 := hide hj5; clear ho5 hn5 ho5' hj5)
      have HS5 : Hid (ClrS q g1 g2 w.heap.size w 0 (sumT (RunA b s).1) (lowT (RunA b s).1) (highT (RunA b s).1) (givenB b.length (RunA b s).1) (givenS s.length (RunA b s).1) w5) := hide
        ⟨HJ5.out.c, (HO5.out.block _ (Nat.lt_of_lt_of_le (lt_of_block HZ1.out) HLA.out.b.size) (by have := HQS.out; omega)).trans ((HLA.out.b.block _ (lt_of_block HZ1.out)).trans HZ1.out),
          ⟨HJ5.out.os.trans HBC.out.os, HJ5.out.tape.trans HBC.out.tape, HJ5.out.output.trans HBC.out.output, Nat.le_trans HBC.out.size HO5.out.size, fun k hk => (HO5.out.block k (by have := HBC.out.size; omega) (by have := HQS.out; omega)).trans (HBC.out.block k hk)⟩⟩
      clear HJ5 HO5 HBC HZ1 HWA HBW
      by_cases hR : (RunA b s).1 = []
      · have hs5 : ClrS q g1 g2 w.heap.size w 0 0 0 0 (givenB b.length []) (givenS s.length []) w5 := by
          have := HS5.out
          rw [hR] at this
          exact this
        have HE5 := hide hs5
        have HCL : Hid (clrOf b.length s.length (RunA b s) = (0, 0, 0, 0, givenB b.length [], givenS s.length [])) := hide (by unfold clrOf; rw [if_pos hR])
        clear hs5 hR
        obtain ⟨c0, c1, c2, c3, c4, c5⟩ := HE5.out.c.cells
        obtain ⟨y0, y1, y2, y3, y4, y5, y6⟩ := zero_cells HE5.out.z
        go_wp2_with fail
        refine bodyPost_ret (v := .tuple #[.agg #[.int .i64 0, .int .i64 0, .int .i64 0, .int .i64 0, .slice (some ⟨g1, 0, none⟩) (givenB b.length []).length (givenB b.length []).length, .slice (some ⟨g2, 0, none⟩) (givenS s.length []).length (givenS s.length []).length], .int .i64 0]) (by simp [results, Try.results11, go_sem, y0, y1, y2, y3, y4, y5]) rfl ?_
        exact clear_end HE5.out HK.out HLA.out.n3 HQS.out HCL.out _ _ _ _ _ _
      · have HNE := hide hR
        have hst : (sumT (RunA b s).1 == 0) = false := by have := HRP.out hR; simp; omega
        clear hR
        rcases hn : (RunA b s).2.1 with _ | ⟨u0, u1⟩ <;> rcases ho : (RunA b s).2.2 with _ | ⟨o0, o1⟩
        · -- 0 0
          have hn5 := HN5.out
          rw [hn] at hn5
          have ho5 := HV5.out
          rw [ho] at ho5
          obtain rfl : nv = .pointer none := hn5
          obtain rfl : ov = .pointer none := ho5
          have HRR : Hid ((RunA b s).2.1 = none ∧ (RunA b s).2.2 = none) := hide ⟨hn, ho⟩
          clear hn ho HN5 HV5 HRU
          have HEN := hide (HRE.out HNE.out)
          have HCL0 : Hid (clrOf b.length s.length (RunA b s) = ((lowT (RunA b s).1) + ((highT (RunA b s).1) - (lowT (RunA b s).1)).tdiv 2, sumT (RunA b s).1, lowT (RunA b s).1, highT (RunA b s).1, givenB b.length (RunA b s).1, givenS s.length (RunA b s).1)) := hide (by unfold clrOf; rw [if_neg HNE.out]; simp only [HRR.out.1, HRR.out.2])
          generalize sumT (RunA b s).1 = tr at *
          generalize lowT (RunA b s).1 = lo at *
          generalize highT (RunA b s).1 = hi at *
          generalize hbl : givenB b.length (RunA b s).1 = l1 at *
          generalize hsl : givenS s.length (RunA b s).1 = l2 at *
          clear hbl hsl HRE HRP
          have HLH : Hid ((0 ≤ lo ∧ lo ≤ 1099511627776) ∧ 0 ≤ hi ∧ hi ≤ 1099511627776) := hide (by have h1 := HEN.out; omega)
          generalize hlo : lo = lo' at *
          generalize hhi : hi = hi' at *
          clear hlo hhi
          have HD := hide (tdiv2 (z := hi' - lo') (M := 1099511627776) (by have := HLH.out; omega))
          have e1 : wrap64 (hi' - lo') = hi' - lo' := by have := HLH.out; unfold wrap64; omega
          have e2 : wrap64 ((hi' - lo').tdiv 2) = (hi' - lo').tdiv 2 := by have := HD.out; unfold wrap64; omega
          have e3 : wrap64 (lo' + (hi' - lo').tdiv 2) = lo' + (hi' - lo').tdiv 2 := by have := HLH.out; have := HD.out; unfold wrap64; omega
          obtain ⟨c0, c1, c2, c3, c4, c5⟩ := HS5.out.c.cells
          obtain ⟨f0, _, _⟩ := HS5.out.c.frozen
          go_upto_region 13 with fail
          have HS8 := hide (HS5.out.setq HLA.out.n1 HLA.out.n2 HQS.out.1 (Nat.le_refl _) (lo' + (hi' - lo').tdiv 2)).1
          have HCL := hide HCL0.out
          clear c0 c1 c2 c3 c4 c5 f0 HS5 e1 e2 e3 HCL0
          generalize w5.setCell ⟨q, 0, none⟩ (.int .i64 (lo' + (hi' - lo').tdiv 2)) = w8 at *
          obtain ⟨c0, c1, c2, c3, c4, c5⟩ := HS8.out.c.cells
          obtain ⟨y0, y1, y2, y3, y4, y5, y6⟩ := zero_cells HS8.out.z
          go_wp2_with fail
          refine bodyPost_ret (v := .tuple #[.agg #[.int .i64 (lo' + (hi' - lo').tdiv 2), .int .i64 tr, .int .i64 lo', .int .i64 hi', .slice (some ⟨g1, 0, none⟩) l1.length l1.length, .slice (some ⟨g2, 0, none⟩) l2.length l2.length], .int .i64 0]) (by simp [results, Try.results11, go_sem, y0, y1, y2, y3, y4, y5]) rfl ?_
          exact clear_end HS8.out HK.out HLA.out.n3 HQS.out HCL.out _ _ _ _ _ _
        · -- 0 o
          have hn5 := HN5.out
          rw [hn] at hn5
          have ho5 := HV5.out
          rw [ho] at ho5
          obtain rfl : nv = .pointer none := hn5
          obtain ⟨ko, rfl, hko⟩ := ho5
          have Hko := hide hko
          have HON := hide (unit_far hko HS5.out.c.bq)
          have HO1 := hide (HRU.out.2 _ ho)
          clear hko
          have HRR : Hid ((RunA b s).2.1 = none ∧ (RunA b s).2.2 = some (o0, o1)) := hide ⟨hn, ho⟩
          clear hn ho HN5 HV5 HRU
          have HEN := hide (HRE.out HNE.out)
          have HCL0 : Hid (clrOf b.length s.length (RunA b s) = ((lowT (RunA b s).1) + ((min (highT (RunA b s).1) o1) - (lowT (RunA b s).1)).tdiv 2, sumT (RunA b s).1, lowT (RunA b s).1, min (highT (RunA b s).1) o1, givenB b.length (RunA b s).1, givenS s.length (RunA b s).1)) := hide (by unfold clrOf; rw [if_neg HNE.out]; simp only [HRR.out.1, HRR.out.2])
          generalize sumT (RunA b s).1 = tr at *
          generalize lowT (RunA b s).1 = lo at *
          generalize highT (RunA b s).1 = hi at *
          generalize hbl : givenB b.length (RunA b s).1 = l1 at *
          generalize hsl : givenS s.length (RunA b s).1 = l2 at *
          clear hbl hsl HRE HRP
          obtain ⟨c0, c1, c2, c3, c4, c5⟩ := HS5.out.c.cells
          go_upto_region 11 with fail
          have hS0 := And.intro c3 (cell_of_row w5 ko 1 _ _ (0, 0) Hko.out)
          simp only [List.getElem?_toArray, List.getElem?_cons_zero, List.getElem?_cons_succ] at hS0
          clear c0 c1 c2 c3 c4 c5
          refine wp_region_U 8 (fun X => X.cell? ⟨q, 3, none⟩ = some (.int .i64 hi) ∧ X.cell? ⟨ko, 1, none⟩ = some (.int .i64 o1)) rfl hS0 (fun hHeld => ?_)
          refine AnyU.take (i := 0) (v := ?v441) rfl (by kernel_rfl) (by kernel_rfl) (by kernel_rfl) (by kernel_rfl) (fun _ _ _ h => h) (Or.inl ⟨by rfl, ?hy441⟩) hHeld ?r441
          case hy441 => (intro w hSw; (try dsimp only at hSw); go_simp <;> with_reducible rfl)
          simp only [Act.put, List.setIfInBounds_toArray, List.set_cons_zero, List.set_cons_succ]
          refine AnyU.take (i := 1) (v := ?v442) rfl (by kernel_rfl) (by kernel_rfl) (by kernel_rfl) (by kernel_rfl) (fun _ _ _ h => h) (Or.inl ⟨by rfl, ?hy442⟩) hHeld ?r442
          case hy442 => (intro w hSw; (try dsimp only at hSw); go_simp <;> with_reducible rfl)
          simp only [Act.put, List.setIfInBounds_toArray, List.set_cons_zero, List.set_cons_succ]
          refine AnyU.take (i := 2) (v := ?v443) rfl (by kernel_rfl) (by kernel_rfl) (by kernel_rfl) (by kernel_rfl) (fun _ _ _ h => h) (Or.inl ⟨by rfl, ?hy443⟩) hHeld ?r443
          case hy443 => (intro w hSw; (try dsimp only at hSw); go_simp <;> with_reducible rfl)
          simp only [Act.put, List.setIfInBounds_toArray, List.set_cons_zero, List.set_cons_succ]
          refine AnyU.take (i := 3) (v := ?v444) rfl (by kernel_rfl) (by kernel_rfl) (by kernel_rfl) (by kernel_rfl) (fun _ _ _ h => h) (Or.inl ⟨by rfl, ?hy444⟩) hHeld ?r444
          case hy444 => (intro w hSw; (try dsimp only at hSw); go_simp <;> with_reducible rfl)
          simp only [Act.put, List.setIfInBounds_toArray, List.set_cons_zero, List.set_cons_succ]
          refine AnyU.take (i := 4) (v := ?v445) rfl (by kernel_rfl) (by kernel_rfl) (by kernel_rfl) (by kernel_rfl) (fun _ _ _ h => h) (Or.inl ⟨by rfl, ?hy445⟩) hHeld ?r445
          case hy445 => (intro w hSw; (try dsimp only at hSw); go_simp <;> with_reducible rfl)
          simp only [Act.put, List.setIfInBounds_toArray, List.set_cons_zero, List.set_cons_succ]
          refine AnyU.take (i := 5) (v := ?v446) rfl (by kernel_rfl) (by kernel_rfl) (by kernel_rfl) (by kernel_rfl) (fun _ _ _ h => h) (Or.inl ⟨by rfl, ?hy446⟩) hHeld ?r446
          case hy446 => (intro w hSw; (try dsimp only at hSw); go_simp <;> with_reducible rfl)
          simp only [Act.put, List.setIfInBounds_toArray, List.set_cons_zero, List.set_cons_succ]
          refine AnyU.take (i := 6) (v := ?v447) rfl (by kernel_rfl) (by kernel_rfl) (by kernel_rfl) (by kernel_rfl) (fun _ _ _ h => h) (Or.inl ⟨by rfl, ?hy447⟩) hHeld ?r447
          case hy447 => (intro w hSw; (try dsimp only at hSw); go_simp <;> with_reducible rfl)
          simp only [Act.put, List.setIfInBounds_toArray, List.set_cons_zero, List.set_cons_succ]
          refine AnyU.take (i := 7) (v := ?v448) rfl (by kernel_rfl) (by kernel_rfl) (by kernel_rfl) (by kernel_rfl) (fun _ _ _ h => h) (Or.inl ⟨by rfl, ?hy448⟩) hHeld ?r448
          case hy448 => (intro w hSw; (try dsimp only at hSw); go_simp <;> with_reducible rfl)
          simp only [Act.put, List.setIfInBounds_toArray, List.set_cons_zero, List.set_cons_succ]
          refine AnyU.next (js := [8]) (by kernel_rfl) (by simp) (NextU.cons rfl (fun K hK => ?_) NextU.nil)
          obtain ⟨c0, c1, c2, c3, c4, c5⟩ := HS5.out.c.cells
          obtain ⟨f0, _, _⟩ := HS5.out.c.frozen
          clear hHeld hS0
          go_simp
          have HS7 := hide (HS5.out.setq HLA.out.n1 HLA.out.n2 HQS.out.1 (Nat.le_refl _) (min hi o1)).2.2.drew
          clear c0 c1 c2 c3 c4 c5 f0 HS5
          generalize (w5.setCell ⟨q, 3, none⟩ (.int .i64 (min hi o1))).drew = w7 at *
          refine hK.out _ _ (fun h => absurd h (by decide)) (fun _ => ?_)
          try simp only [Act.put, List.setIfInBounds_toArray, List.set_cons_zero, List.set_cons_succ]
          refine AnyU.over (by kernel_rfl) ?_ _
          have HLH : Hid ((0 ≤ lo ∧ lo ≤ 1099511627776) ∧ 0 ≤ min hi o1 ∧ min hi o1 ≤ 1099511627776) := hide (by have h1 := HEN.out; have h3 : 0 ≤ o1 ∧ o1 ≤ 1099511627776 := HO1.out; omega)
          generalize hlo : lo = lo' at *
          generalize hhi : min hi o1 = hi' at *
          clear hlo hhi
          have HD := hide (tdiv2 (z := hi' - lo') (M := 1099511627776) (by have := HLH.out; omega))
          have e1 : wrap64 (hi' - lo') = hi' - lo' := by have := HLH.out; unfold wrap64; omega
          have e2 : wrap64 ((hi' - lo').tdiv 2) = (hi' - lo').tdiv 2 := by have := HD.out; unfold wrap64; omega
          have e3 : wrap64 (lo' + (hi' - lo').tdiv 2) = lo' + (hi' - lo').tdiv 2 := by have := HLH.out; have := HD.out; unfold wrap64; omega
          obtain ⟨c0, c1, c2, c3, c4, c5⟩ := HS7.out.c.cells
          obtain ⟨f0, _, _⟩ := HS7.out.c.frozen
          go_upto_region 13 with fail
          have HS8 := hide (HS7.out.setq HLA.out.n1 HLA.out.n2 HQS.out.1 (Nat.le_refl _) (lo' + (hi' - lo').tdiv 2)).1
          have HCL := hide HCL0.out
          clear c0 c1 c2 c3 c4 c5 f0 HS7 e1 e2 e3 HCL0
          generalize w7.setCell ⟨q, 0, none⟩ (.int .i64 (lo' + (hi' - lo').tdiv 2)) = w8 at *
          obtain ⟨c0, c1, c2, c3, c4, c5⟩ := HS8.out.c.cells
          obtain ⟨y0, y1, y2, y3, y4, y5, y6⟩ := zero_cells HS8.out.z
          go_wp2_with fail
          refine bodyPost_ret (v := .tuple #[.agg #[.int .i64 (lo' + (hi' - lo').tdiv 2), .int .i64 tr, .int .i64 lo', .int .i64 hi', .slice (some ⟨g1, 0, none⟩) l1.length l1.length, .slice (some ⟨g2, 0, none⟩) l2.length l2.length], .int .i64 0]) (by simp [results, Try.results11, go_sem, y0, y1, y2, y3, y4, y5]) rfl ?_
          exact clear_end HS8.out HK.out HLA.out.n3 HQS.out HCL.out _ _ _ _ _ _
        · -- u 0
          have hn5 := HN5.out
          rw [hn] at hn5
          have ho5 := HV5.out
          rw [ho] at ho5
          obtain ⟨kn, rfl, hkn⟩ := hn5
          have Hkn := hide hkn
          have HUN := hide (unit_far hkn HS5.out.c.bq)
          have HU1 := hide (HRU.out.1 _ hn)
          clear hkn
          obtain rfl : ov = .pointer none := ho5
          have HRR : Hid ((RunA b s).2.1 = some (u0, u1) ∧ (RunA b s).2.2 = none) := hide ⟨hn, ho⟩
          clear hn ho HN5 HV5 HRU
          have HEN := hide (HRE.out HNE.out)
          have HCL0 : Hid (clrOf b.length s.length (RunA b s) = ((max (lowT (RunA b s).1) u1) + ((highT (RunA b s).1) - (max (lowT (RunA b s).1) u1)).tdiv 2, sumT (RunA b s).1, max (lowT (RunA b s).1) u1, highT (RunA b s).1, givenB b.length (RunA b s).1, givenS s.length (RunA b s).1)) := hide (by unfold clrOf; rw [if_neg HNE.out]; simp only [HRR.out.1, HRR.out.2])
          generalize sumT (RunA b s).1 = tr at *
          generalize lowT (RunA b s).1 = lo at *
          generalize highT (RunA b s).1 = hi at *
          generalize hbl : givenB b.length (RunA b s).1 = l1 at *
          generalize hsl : givenS s.length (RunA b s).1 = l2 at *
          clear hbl hsl HRE HRP
          obtain ⟨c0, c1, c2, c3, c4, c5⟩ := HS5.out.c.cells
          go_upto_region 9 with fail
          have hS0 := And.intro c2 (cell_of_row w5 kn 1 _ _ (0, 0) Hkn.out)
          simp only [List.getElem?_toArray, List.getElem?_cons_zero, List.getElem?_cons_succ] at hS0
          clear c0 c1 c2 c3 c4 c5
          refine wp_region_U 8 (fun X => X.cell? ⟨q, 2, none⟩ = some (.int .i64 lo) ∧ X.cell? ⟨kn, 1, none⟩ = some (.int .i64 u1)) rfl hS0 (fun hHeld => ?_)
          refine AnyU.take (i := 0) (v := ?v501) rfl (by kernel_rfl) (by kernel_rfl) (by kernel_rfl) (by kernel_rfl) (fun _ _ _ h => h) (Or.inl ⟨by rfl, ?hy501⟩) hHeld ?r501
          case hy501 => (intro w hSw; (try dsimp only at hSw); go_simp <;> with_reducible rfl)
          simp only [Act.put, List.setIfInBounds_toArray, List.set_cons_zero, List.set_cons_succ]
          refine AnyU.take (i := 1) (v := ?v502) rfl (by kernel_rfl) (by kernel_rfl) (by kernel_rfl) (by kernel_rfl) (fun _ _ _ h => h) (Or.inl ⟨by rfl, ?hy502⟩) hHeld ?r502
          case hy502 => (intro w hSw; (try dsimp only at hSw); go_simp <;> with_reducible rfl)
          simp only [Act.put, List.setIfInBounds_toArray, List.set_cons_zero, List.set_cons_succ]
          refine AnyU.take (i := 2) (v := ?v503) rfl (by kernel_rfl) (by kernel_rfl) (by kernel_rfl) (by kernel_rfl) (fun _ _ _ h => h) (Or.inl ⟨by rfl, ?hy503⟩) hHeld ?r503
          case hy503 => (intro w hSw; (try dsimp only at hSw); go_simp <;> with_reducible rfl)
          simp only [Act.put, List.setIfInBounds_toArray, List.set_cons_zero, List.set_cons_succ]
          refine AnyU.take (i := 3) (v := ?v504) rfl (by kernel_rfl) (by kernel_rfl) (by kernel_rfl) (by kernel_rfl) (fun _ _ _ h => h) (Or.inl ⟨by rfl, ?hy504⟩) hHeld ?r504
          case hy504 => (intro w hSw; (try dsimp only at hSw); go_simp <;> with_reducible rfl)
          simp only [Act.put, List.setIfInBounds_toArray, List.set_cons_zero, List.set_cons_succ]
          refine AnyU.take (i := 4) (v := ?v505) rfl (by kernel_rfl) (by kernel_rfl) (by kernel_rfl) (by kernel_rfl) (fun _ _ _ h => h) (Or.inl ⟨by rfl, ?hy505⟩) hHeld ?r505
          case hy505 => (intro w hSw; (try dsimp only at hSw); go_simp <;> with_reducible rfl)
          simp only [Act.put, List.setIfInBounds_toArray, List.set_cons_zero, List.set_cons_succ]
          refine AnyU.take (i := 5) (v := ?v506) rfl (by kernel_rfl) (by kernel_rfl) (by kernel_rfl) (by kernel_rfl) (fun _ _ _ h => h) (Or.inl ⟨by rfl, ?hy506⟩) hHeld ?r506
          case hy506 => (intro w hSw; (try dsimp only at hSw); go_simp <;> with_reducible rfl)
          simp only [Act.put, List.setIfInBounds_toArray, List.set_cons_zero, List.set_cons_succ]
          refine AnyU.take (i := 6) (v := ?v507) rfl (by kernel_rfl) (by kernel_rfl) (by kernel_rfl) (by kernel_rfl) (fun _ _ _ h => h) (Or.inl ⟨by rfl, ?hy507⟩) hHeld ?r507
          case hy507 => (intro w hSw; (try dsimp only at hSw); go_simp <;> with_reducible rfl)
          simp only [Act.put, List.setIfInBounds_toArray, List.set_cons_zero, List.set_cons_succ]
          refine AnyU.take (i := 7) (v := ?v508) rfl (by kernel_rfl) (by kernel_rfl) (by kernel_rfl) (by kernel_rfl) (fun _ _ _ h => h) (Or.inl ⟨by rfl, ?hy508⟩) hHeld ?r508
          case hy508 => (intro w hSw; (try dsimp only at hSw); go_simp <;> with_reducible rfl)
          simp only [Act.put, List.setIfInBounds_toArray, List.set_cons_zero, List.set_cons_succ]
          refine AnyU.next (js := [8]) (by kernel_rfl) (by simp) (NextU.cons rfl (fun K hK => ?_) NextU.nil)
          obtain ⟨c0, c1, c2, c3, c4, c5⟩ := HS5.out.c.cells
          obtain ⟨f0, _, _⟩ := HS5.out.c.frozen
          clear hHeld hS0
          go_simp
          have HS6 := hide (HS5.out.setq HLA.out.n1 HLA.out.n2 HQS.out.1 (Nat.le_refl _) (max lo u1)).2.1.drew
          clear c0 c1 c2 c3 c4 c5 f0 HS5
          generalize (w5.setCell ⟨q, 2, none⟩ (.int .i64 (max lo u1))).drew = w6 at *
          refine hK.out _ _ (fun h => absurd h (by decide)) (fun _ => ?_)
          try simp only [Act.put, List.setIfInBounds_toArray, List.set_cons_zero, List.set_cons_succ]
          refine AnyU.over (by kernel_rfl) ?_ _
          have HLH : Hid ((0 ≤ max lo u1 ∧ max lo u1 ≤ 1099511627776) ∧ 0 ≤ hi ∧ hi ≤ 1099511627776) := hide (by have h1 := HEN.out; have h2 : 0 ≤ u1 ∧ u1 ≤ 1099511627776 := HU1.out; omega)
          generalize hlo : max lo u1 = lo' at *
          generalize hhi : hi = hi' at *
          clear hlo hhi
          have HD := hide (tdiv2 (z := hi' - lo') (M := 1099511627776) (by have := HLH.out; omega))
          have e1 : wrap64 (hi' - lo') = hi' - lo' := by have := HLH.out; unfold wrap64; omega
          have e2 : wrap64 ((hi' - lo').tdiv 2) = (hi' - lo').tdiv 2 := by have := HD.out; unfold wrap64; omega
          have e3 : wrap64 (lo' + (hi' - lo').tdiv 2) = lo' + (hi' - lo').tdiv 2 := by have := HLH.out; have := HD.out; unfold wrap64; omega
          obtain ⟨c0, c1, c2, c3, c4, c5⟩ := HS6.out.c.cells
          obtain ⟨f0, _, _⟩ := HS6.out.c.frozen
          go_upto_region 13 with fail
          have HS8 := hide (HS6.out.setq HLA.out.n1 HLA.out.n2 HQS.out.1 (Nat.le_refl _) (lo' + (hi' - lo').tdiv 2)).1
          have HCL := hide HCL0.out
          clear c0 c1 c2 c3 c4 c5 f0 HS6 e1 e2 e3 HCL0
          generalize w6.setCell ⟨q, 0, none⟩ (.int .i64 (lo' + (hi' - lo').tdiv 2)) = w8 at *
          obtain ⟨c0, c1, c2, c3, c4, c5⟩ := HS8.out.c.cells
          obtain ⟨y0, y1, y2, y3, y4, y5, y6⟩ := zero_cells HS8.out.z
          go_wp2_with fail
          refine bodyPost_ret (v := .tuple #[.agg #[.int .i64 (lo' + (hi' - lo').tdiv 2), .int .i64 tr, .int .i64 lo', .int .i64 hi', .slice (some ⟨g1, 0, none⟩) l1.length l1.length, .slice (some ⟨g2, 0, none⟩) l2.length l2.length], .int .i64 0]) (by simp [results, Try.results11, go_sem, y0, y1, y2, y3, y4, y5]) rfl ?_
          exact clear_end HS8.out HK.out HLA.out.n3 HQS.out HCL.out _ _ _ _ _ _
        · -- u o
          have hn5 := HN5.out
          rw [hn] at hn5
          have ho5 := HV5.out
          rw [ho] at ho5
          obtain ⟨kn, rfl, hkn⟩ := hn5
          have Hkn := hide hkn
          have HUN := hide (unit_far hkn HS5.out.c.bq)
          have HU1 := hide (HRU.out.1 _ hn)
          clear hkn
          obtain ⟨ko, rfl, hko⟩ := ho5
          have Hko := hide hko
          have HON := hide (unit_far hko HS5.out.c.bq)
          have HO1 := hide (HRU.out.2 _ ho)
          clear hko
          have HRR : Hid ((RunA b s).2.1 = some (u0, u1) ∧ (RunA b s).2.2 = some (o0, o1)) := hide ⟨hn, ho⟩
          clear hn ho HN5 HV5 HRU
          have HEN := hide (HRE.out HNE.out)
          have HCL0 : Hid (clrOf b.length s.length (RunA b s) = ((max (lowT (RunA b s).1) u1) + ((min (highT (RunA b s).1) o1) - (max (lowT (RunA b s).1) u1)).tdiv 2, sumT (RunA b s).1, max (lowT (RunA b s).1) u1, min (highT (RunA b s).1) o1, givenB b.length (RunA b s).1, givenS s.length (RunA b s).1)) := hide (by unfold clrOf; rw [if_neg HNE.out]; simp only [HRR.out.1, HRR.out.2])
          generalize sumT (RunA b s).1 = tr at *
          generalize lowT (RunA b s).1 = lo at *
          generalize highT (RunA b s).1 = hi at *
          generalize hbl : givenB b.length (RunA b s).1 = l1 at *
          generalize hsl : givenS s.length (RunA b s).1 = l2 at *
          clear hbl hsl HRE HRP
          obtain ⟨c0, c1, c2, c3, c4, c5⟩ := HS5.out.c.cells
          go_upto_region 9 with fail
          have hS0 := And.intro c2 (cell_of_row w5 kn 1 _ _ (0, 0) Hkn.out)
          simp only [List.getElem?_toArray, List.getElem?_cons_zero, List.getElem?_cons_succ] at hS0
          clear c0 c1 c2 c3 c4 c5
          refine wp_region_U 8 (fun X => X.cell? ⟨q, 2, none⟩ = some (.int .i64 lo) ∧ X.cell? ⟨kn, 1, none⟩ = some (.int .i64 u1)) rfl hS0 (fun hHeld => ?_)
          refine AnyU.take (i := 0) (v := ?v601) rfl (by kernel_rfl) (by kernel_rfl) (by kernel_rfl) (by kernel_rfl) (fun _ _ _ h => h) (Or.inl ⟨by rfl, ?hy601⟩) hHeld ?r601
          case hy601 => (intro w hSw; (try dsimp only at hSw); go_simp <;> with_reducible rfl)
          simp only [Act.put, List.setIfInBounds_toArray, List.set_cons_zero, List.set_cons_succ]
          refine AnyU.take (i := 1) (v := ?v602) rfl (by kernel_rfl) (by kernel_rfl) (by kernel_rfl) (by kernel_rfl) (fun _ _ _ h => h) (Or.inl ⟨by rfl, ?hy602⟩) hHeld ?r602
          case hy602 => (intro w hSw; (try dsimp only at hSw); go_simp <;> with_reducible rfl)
          simp only [Act.put, List.setIfInBounds_toArray, List.set_cons_zero, List.set_cons_succ]
          refine AnyU.take (i := 2) (v := ?v603) rfl (by kernel_rfl) (by kernel_rfl) (by kernel_rfl) (by kernel_rfl) (fun _ _ _ h => h) (Or.inl ⟨by rfl, ?hy603⟩) hHeld ?r603
          case hy603 => (intro w hSw; (try dsimp only at hSw); go_simp <;> with_reducible rfl)
          simp only [Act.put, List.setIfInBounds_toArray, List.set_cons_zero, List.set_cons_succ]
          refine AnyU.take (i := 3) (v := ?v604) rfl (by kernel_rfl) (by kernel_rfl) (by kernel_rfl) (by kernel_rfl) (fun _ _ _ h => h) (Or.inl ⟨by rfl, ?hy604⟩) hHeld ?r604
          case hy604 => (intro w hSw; (try dsimp only at hSw); go_simp <;> with_reducible rfl)
          simp only [Act.put, List.setIfInBounds_toArray, List.set_cons_zero, List.set_cons_succ]
          refine AnyU.take (i := 4) (v := ?v605) rfl (by kernel_rfl) (by kernel_rfl) (by kernel_rfl) (by kernel_rfl) (fun _ _ _ h => h) (Or.inl ⟨by rfl, ?hy605⟩) hHeld ?r605
          case hy605 => (intro w hSw; (try dsimp only at hSw); go_simp <;> with_reducible rfl)
          simp only [Act.put, List.setIfInBounds_toArray, List.set_cons_zero, List.set_cons_succ]
          refine AnyU.take (i := 5) (v := ?v606) rfl (by kernel_rfl) (by kernel_rfl) (by kernel_rfl) (by kernel_rfl) (fun _ _ _ h => h) (Or.inl ⟨by rfl, ?hy606⟩) hHeld ?r606
          case hy606 => (intro w hSw; (try dsimp only at hSw); go_simp <;> with_reducible rfl)
          simp only [Act.put, List.setIfInBounds_toArray, List.set_cons_zero, List.set_cons_succ]
          refine AnyU.take (i := 6) (v := ?v607) rfl (by kernel_rfl) (by kernel_rfl) (by kernel_rfl) (by kernel_rfl) (fun _ _ _ h => h) (Or.inl ⟨by rfl, ?hy607⟩) hHeld ?r607
          case hy607 => (intro w hSw; (try dsimp only at hSw); go_simp <;> with_reducible rfl)
          simp only [Act.put, List.setIfInBounds_toArray, List.set_cons_zero, List.set_cons_succ]
          refine AnyU.take (i := 7) (v := ?v608) rfl (by kernel_rfl) (by kernel_rfl) (by kernel_rfl) (by kernel_rfl) (fun _ _ _ h => h) (Or.inl ⟨by rfl, ?hy608⟩) hHeld ?r608
          case hy608 => (intro w hSw; (try dsimp only at hSw); go_simp <;> with_reducible rfl)
          simp only [Act.put, List.setIfInBounds_toArray, List.set_cons_zero, List.set_cons_succ]
          refine AnyU.next (js := [8]) (by kernel_rfl) (by simp) (NextU.cons rfl (fun K hK => ?_) NextU.nil)
          obtain ⟨c0, c1, c2, c3, c4, c5⟩ := HS5.out.c.cells
          obtain ⟨f0, _, _⟩ := HS5.out.c.frozen
          clear hHeld hS0
          go_simp
          have HS6 := hide (HS5.out.setq HLA.out.n1 HLA.out.n2 HQS.out.1 (Nat.le_refl _) (max lo u1)).2.1.drew
          have Hko6 : Hid ((w5.setCell ⟨q, 2, none⟩ (.int .i64 (max lo u1))).drew.heap[ko]? = some (.cells #[.int .i64 o0, .int .i64 o1] 68 (0, 0))) := hide ((Below.heap_setCell w5 ⟨q, 2, none⟩ _ _ HON.out).trans Hko.out)
          clear Hko
          clear c0 c1 c2 c3 c4 c5 f0 HS5
          generalize (w5.setCell ⟨q, 2, none⟩ (.int .i64 (max lo u1))).drew = w6 at *
          refine hK.out _ _ (fun h => absurd h (by decide)) (fun _ => ?_)
          try simp only [Act.put, List.setIfInBounds_toArray, List.set_cons_zero, List.set_cons_succ]
          refine AnyU.over (by kernel_rfl) ?_ _
          have Hko := hide Hko6.out
          obtain ⟨c0, c1, c2, c3, c4, c5⟩ := HS6.out.c.cells
          go_upto_region 11 with fail
          have hS0 := And.intro c3 (cell_of_row w6 ko 1 _ _ (0, 0) Hko.out)
          simp only [List.getElem?_toArray, List.getElem?_cons_zero, List.getElem?_cons_succ] at hS0
          clear c0 c1 c2 c3 c4 c5
          refine wp_region_U 8 (fun X => X.cell? ⟨q, 3, none⟩ = some (.int .i64 hi) ∧ X.cell? ⟨ko, 1, none⟩ = some (.int .i64 o1)) rfl hS0 (fun hHeld => ?_)
          refine AnyU.take (i := 0) (v := ?v641) rfl (by kernel_rfl) (by kernel_rfl) (by kernel_rfl) (by kernel_rfl) (fun _ _ _ h => h) (Or.inl ⟨by rfl, ?hy641⟩) hHeld ?r641
          case hy641 => (intro w hSw; (try dsimp only at hSw); go_simp <;> with_reducible rfl)
          simp only [Act.put, List.setIfInBounds_toArray, List.set_cons_zero, List.set_cons_succ]
          refine AnyU.take (i := 1) (v := ?v642) rfl (by kernel_rfl) (by kernel_rfl) (by kernel_rfl) (by kernel_rfl) (fun _ _ _ h => h) (Or.inl ⟨by rfl, ?hy642⟩) hHeld ?r642
          case hy642 => (intro w hSw; (try dsimp only at hSw); go_simp <;> with_reducible rfl)
          simp only [Act.put, List.setIfInBounds_toArray, List.set_cons_zero, List.set_cons_succ]
          refine AnyU.take (i := 2) (v := ?v643) rfl (by kernel_rfl) (by kernel_rfl) (by kernel_rfl) (by kernel_rfl) (fun _ _ _ h => h) (Or.inl ⟨by rfl, ?hy643⟩) hHeld ?r643
          case hy643 => (intro w hSw; (try dsimp only at hSw); go_simp <;> with_reducible rfl)
          simp only [Act.put, List.setIfInBounds_toArray, List.set_cons_zero, List.set_cons_succ]
          refine AnyU.take (i := 3) (v := ?v644) rfl (by kernel_rfl) (by kernel_rfl) (by kernel_rfl) (by kernel_rfl) (fun _ _ _ h => h) (Or.inl ⟨by rfl, ?hy644⟩) hHeld ?r644
          case hy644 => (intro w hSw; (try dsimp only at hSw); go_simp <;> with_reducible rfl)
          simp only [Act.put, List.setIfInBounds_toArray, List.set_cons_zero, List.set_cons_succ]
          refine AnyU.take (i := 4) (v := ?v645) rfl (by kernel_rfl) (by kernel_rfl) (by kernel_rfl) (by kernel_rfl) (fun _ _ _ h => h) (Or.inl ⟨by rfl, ?hy645⟩) hHeld ?r645
          case hy645 => (intro w hSw; (try dsimp only at hSw); go_simp <;> with_reducible rfl)
          simp only [Act.put, List.setIfInBounds_toArray, List.set_cons_zero, List.set_cons_succ]
          refine AnyU.take (i := 5) (v := ?v646) rfl (by kernel_rfl) (by kernel_rfl) (by kernel_rfl) (by kernel_rfl) (fun _ _ _ h => h) (Or.inl ⟨by rfl, ?hy646⟩) hHeld ?r646
          case hy646 => (intro w hSw; (try dsimp only at hSw); go_simp <;> with_reducible rfl)
          simp only [Act.put, List.setIfInBounds_toArray, List.set_cons_zero, List.set_cons_succ]
          refine AnyU.take (i := 6) (v := ?v647) rfl (by kernel_rfl) (by kernel_rfl) (by kernel_rfl) (by kernel_rfl) (fun _ _ _ h => h) (Or.inl ⟨by rfl, ?hy647⟩) hHeld ?r647
          case hy647 => (intro w hSw; (try dsimp only at hSw); go_simp <;> with_reducible rfl)
          simp only [Act.put, List.setIfInBounds_toArray, List.set_cons_zero, List.set_cons_succ]
          refine AnyU.take (i := 7) (v := ?v648) rfl (by kernel_rfl) (by kernel_rfl) (by kernel_rfl) (by kernel_rfl) (fun _ _ _ h => h) (Or.inl ⟨by rfl, ?hy648⟩) hHeld ?r648
          case hy648 => (intro w hSw; (try dsimp only at hSw); go_simp <;> with_reducible rfl)
          simp only [Act.put, List.setIfInBounds_toArray, List.set_cons_zero, List.set_cons_succ]
          refine AnyU.next (js := [8]) (by kernel_rfl) (by simp) (NextU.cons rfl (fun K hK => ?_) NextU.nil)
          obtain ⟨c0, c1, c2, c3, c4, c5⟩ := HS6.out.c.cells
          obtain ⟨f0, _, _⟩ := HS6.out.c.frozen
          clear hHeld hS0
          go_simp
          have HS7 := hide (HS6.out.setq HLA.out.n1 HLA.out.n2 HQS.out.1 (Nat.le_refl _) (min hi o1)).2.2.drew
          clear c0 c1 c2 c3 c4 c5 f0 HS6
          generalize (w6.setCell ⟨q, 3, none⟩ (.int .i64 (min hi o1))).drew = w7 at *
          refine hK.out _ _ (fun h => absurd h (by decide)) (fun _ => ?_)
          try simp only [Act.put, List.setIfInBounds_toArray, List.set_cons_zero, List.set_cons_succ]
          refine AnyU.over (by kernel_rfl) ?_ _
          have HLH : Hid ((0 ≤ max lo u1 ∧ max lo u1 ≤ 1099511627776) ∧ 0 ≤ min hi o1 ∧ min hi o1 ≤ 1099511627776) := hide (by have h1 := HEN.out; have h2 : 0 ≤ u1 ∧ u1 ≤ 1099511627776 := HU1.out; have h3 : 0 ≤ o1 ∧ o1 ≤ 1099511627776 := HO1.out; omega)
          generalize hlo : max lo u1 = lo' at *
          generalize hhi : min hi o1 = hi' at *
          clear hlo hhi
          have HD := hide (tdiv2 (z := hi' - lo') (M := 1099511627776) (by have := HLH.out; omega))
          have e1 : wrap64 (hi' - lo') = hi' - lo' := by have := HLH.out; unfold wrap64; omega
          have e2 : wrap64 ((hi' - lo').tdiv 2) = (hi' - lo').tdiv 2 := by have := HD.out; unfold wrap64; omega
          have e3 : wrap64 (lo' + (hi' - lo').tdiv 2) = lo' + (hi' - lo').tdiv 2 := by have := HLH.out; have := HD.out; unfold wrap64; omega
          obtain ⟨c0, c1, c2, c3, c4, c5⟩ := HS7.out.c.cells
          obtain ⟨f0, _, _⟩ := HS7.out.c.frozen
          go_upto_region 13 with fail
          have HS8 := hide (HS7.out.setq HLA.out.n1 HLA.out.n2 HQS.out.1 (Nat.le_refl _) (lo' + (hi' - lo').tdiv 2)).1
          have HCL := hide HCL0.out
          clear c0 c1 c2 c3 c4 c5 f0 HS7 e1 e2 e3 HCL0
          generalize w7.setCell ⟨q, 0, none⟩ (.int .i64 (lo' + (hi' - lo').tdiv 2)) = w8 at *
          obtain ⟨c0, c1, c2, c3, c4, c5⟩ := HS8.out.c.cells
          obtain ⟨y0, y1, y2, y3, y4, y5, y6⟩ := zero_cells HS8.out.z
          go_wp2_with fail
          refine bodyPost_ret (v := .tuple #[.agg #[.int .i64 (lo' + (hi' - lo').tdiv 2), .int .i64 tr, .int .i64 lo', .int .i64 hi', .slice (some ⟨g1, 0, none⟩) l1.length l1.length, .slice (some ⟨g2, 0, none⟩) l2.length l2.length], .int .i64 0]) (by simp [results, Try.results11, go_sem, y0, y1, y2, y3, y4, y5]) rfl ?_
          exact clear_end HS8.out HK.out HLA.out.n3 HQS.out HCL.out _ _ _ _ _ _
  · have HK := hide hk
    have hk1 : (checkI b s != 0) = true := by simpa using hk
    clear hk
    go_upto_region 2 with (go_at_call 18; refine (HC.out).mono ?_; rintro e w1 ⟨rfl, hb1⟩; have HB1 := hide hb1; clear hb1)
    have HZ1 := hide ((HB1.out.block _ (lt_of_block HZ0.out)).trans HZ0.out)
    have HBW := hide (HB0.out.trans (HB1.out.mono HB0.out.size))
    clear HC HZ0 HB0 HB1
    obtain ⟨y0, y1, y2, y3, y4, y5, y6⟩ := zero_cells HZ1.out
    go_wp2_with fail
    refine bodyPost_ret (v := .tuple #[noCall, .int .i64 (checkI b s)]) (by simp [results, Try.results11, go_sem, y0, y1, y2, y3, y4, y5, noCall]) rfl ?_
    exact ⟨six_below HBW.out (Nat.le_refl _) _ _ _ _ _ _, .inl ⟨HK.out, rfl⟩⟩
end Go.Proofs.Ytogicdljbnllgaa
