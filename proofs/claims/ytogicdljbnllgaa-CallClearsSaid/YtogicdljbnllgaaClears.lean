/- The walk of the law CallClears. -/
import Derived.Test.YtogicdljbnllgaaLeft
namespace Go.Proofs.Ytogicdljbnllgaa
open Go.Shelf Go.RowKit Go.Lib Go.Sort Go.Proofs

theorem own_at {w : World} {B e size n : Nat} {v : Value} {xs : List Value} (h : w.ownsRow B e size v n xs) (hn : 0 < n) : ∃ g cap, v = .slice (some ⟨g, 0, none⟩) n cap := by
  rcases h.2 with ⟨_, h1⟩ | ⟨g, cap, cur, h1, _⟩
  · omega
  · exact ⟨g, cap, h1⟩
/-- A row that is known whole is the call's own. -/
theorem own_of_row {W : World} {g B : Nat} {l : List Int} (h : W.heap[g]? = some (.cells (rowI l) 3 (0, 0))) (hB : B ≤ g) (hl : l.length ≤ 1000000) :
    W.ownsRow B 3 1 (.slice (some ⟨g, 0, none⟩) l.length l.length) l.length (l.map (Value.int .i64)) := by
  refine ⟨by simp, .inr ⟨g, l.length, rowI l, rfl, hB, h, Nat.le_refl _, by unfold maxLen; omega, by simp [rowI], ?_⟩⟩
  unfold rowI
  simp only [Nat.mul_one]
  exact List.take_of_length_le (by simp)
/-- What a call answers, refused ones too. -/
def clrA (b s : List (Int × Int)) : Called := if checkI b s = 0 then clrOf b.length s.length (RunA b s) else (0, 0, 0, 0, [], [])
theorem clrA_len {b s : List (Int × Int)} {pr tr lo hi : Int} {l1 l2 : List Int} (hC : clrA b s = (pr, tr, lo, hi, l1, l2)) : l1.length ≤ 4096 ∧ l2.length ≤ 4096 := by
  unfold clrA at hC
  split at hC
  · next hk =>
    obtain ⟨hb, hs⟩ := ok_of_check hk
    have h1 := hb.1
    have h2 := hs.1
    unfold clrOf at hC
    split at hC
    · simp only [Prod.mk.injEq] at hC
      rw [← hC.2.2.2.2.1, ← hC.2.2.2.2.2, givenB_len, givenS_len]
      exact ⟨h1, h2⟩
    · simp only [Prod.mk.injEq] at hC
      rw [← hC.2.2.2.2.1, ← hC.2.2.2.2.2, givenB_len, givenS_len]
      exact ⟨h1, h2⟩
  · simp only [Prod.mk.injEq] at hC
    rw [← hC.2.2.2.2.1, ← hC.2.2.2.2.2]
    exact ⟨by simp, by simp⟩
abbrev sixA (pr tr lo hi : Int) (A1 A2 : Option Addr) (n1 n2 : Nat) : Array Value := #[.int .i64 pr, .int .i64 tr, .int .i64 lo, .int .i64 hi, .slice A1 n1 n1, .slice A2 n2 n2]
structure Rows2 (B : Nat) (A1 A2 : Option Addr) (l1 l2 : List Int) (W : World) : Prop where
  o1 : W.ownsRow B 3 1 (.slice A1 l1.length l1.length) l1.length (l1.map (Value.int .i64))
  o2 : W.ownsRow B 3 1 (.slice A2 l2.length l2.length) l2.length (l2.map (Value.int .i64))
  ne : ∀ k, (Value.slice A1 l1.length l1.length).ownBlock = some k → (Value.slice A2 l2.length l2.length).ownBlock ≠ some k
theorem clear_two {b s : List (Int × Int)} {w w' : World} {e : Ending} {pr tr lo hi : Int} {l1 l2 : List Int} (hC : clrA b s = (pr, tr, lo, hi, l1, l2)) (h : ClearP b s w e w') :
    Below w.heap.size w w' ∧ ∃ A1 A2, e = .returned (.tuple #[.agg (sixA pr tr lo hi A1 A2 l1.length l2.length), .int .i64 (checkI b s)]) ∧ Rows2 w.heap.size A1 A2 l1 l2 w' := by
  have hL := clrA_len hC
  obtain ⟨hb, ⟨hk, he⟩ | ⟨hk, g1, g2, he, hne, hg1, hg2, h1, h2⟩⟩ := h
  · unfold clrA at hC
    rw [if_neg hk] at hC
    simp only [Prod.mk.injEq] at hC
    obtain ⟨rfl, rfl, rfl, rfl, rfl, rfl⟩ := hC
    exact ⟨hb, none, none, he, World.ownsRow_nil _ _ _ _, World.ownsRow_nil _ _ _ _, fun k hk => by cases hk⟩
  · unfold clrA at hC
    rw [if_pos hk] at hC
    rw [hC] at he h1 h2
    refine ⟨hb, some ⟨g1, 0, none⟩, some ⟨g2, 0, none⟩, by rw [he, hk]; rfl, own_of_row h1 hg1 (by omega), own_of_row h2 hg2 (by omega), fun k h1 h2 => ?_⟩
    have e1 := Option.some.inj (show some g1 = some k from h1)
    have e2 := Option.some.inj (show some g2 = some k from h2)
    exact hne (e1.trans e2.symm)
/-- The two lent rows. -/
structure LentS (w : World) (g1 c1 : Nat) (b : List (Int × Int)) (g2 c2 : Nat) (s : List (Int × Int)) (W : World) : Prop where
  bel : Below w.heap.size w W
  r1 : W.ownsRow w.heap.size 51 2 (.slice (some ⟨g1, 0, none⟩) (b.length + 1) c1) (b.length + 1) (flat (b ++ [(771, 0)]))
  r2 : W.ownsRow w.heap.size 51 2 (.slice (some ⟨g2, 0, none⟩) (s.length + 1) c2) (s.length + 1) (flat (s ++ [(771, 0)]))
theorem wants_of_lent {W : World} {B g c : Nat} {l : List (Int × Int)} (h : W.ownsRow B 51 2 (.slice (some ⟨g, 0, none⟩) (l.length + 1) c) (l.length + 1) (flat (l ++ [(771, 0)]))) :
    Wants W W.heap.size (some ⟨g, 0, none⟩) (l ++ [(771, 0)]) ∧ Wants W W.heap.size (some ⟨g, 0, none⟩) l ∧ l.length + 1 ≤ c := by
  have h1 := Reads.of_own h
  have h2 := h1.front (k := l.length) (by omega)
  refine ⟨?_, ?_, ?_⟩
  · unfold Wants
    rw [List.length_append]
    exact h1
  · unfold Wants
    rw [flat_take, List.take_left] at h2
    exact h2
  · obtain ⟨_, _, e, hc⟩ := own_sh h
    injection e with _ _ e
    omega
section
variable {w W W' : World} {g1 c1 : Nat} {b : List (Int × Int)} {g2 c2 : Nat} {s : List (Int × Int)}
theorem LentS.below (h : LentS w g1 c1 b g2 c2 s W) (hb : Below W.heap.size W W') : LentS w g1 c1 b g2 c2 s W' :=
  ⟨h.bel.trans (hb.mono h.bel.size), own_below h.r1 hb (Nat.le_refl _), own_below h.r2 hb (Nat.le_refl _)⟩
theorem LentS.alloc (h : LentS w g1 c1 b g2 c2 s W) (o : Obj) : LentS w g1 c1 b g2 c2 s (W.alloc o) := h.below ((Below.refl _ _).alloc (Nat.le_refl _) _)
theorem LentS.wb (h : LentS w g1 c1 b g2 c2 s W) : Wants W W.heap.size (some ⟨g1, 0, none⟩) b := (wants_of_lent h.r1).2.1
theorem LentS.ws (h : LentS w g1 c1 b g2 c2 s W) : Wants W W.heap.size (some ⟨g2, 0, none⟩) s := (wants_of_lent h.r2).2.1
end
/-- An answer in a box of the law's own. -/
structure Box (B q T : Nat) (pr tr lo hi : Int) (A1 A2 : Option Addr) (l1 l2 : List Int) (W : World) : Prop where
  pos : B ≤ q ∧ q < T ∧ T ≤ W.heap.size
  c : W.heap[q]? = some (.cells (sixA pr tr lo hi A1 A2 l1.length l2.length) 28 (0, 0))
  r : Rows2 B A1 A2 l1 l2 W
  t1 : ∀ k, (Value.slice A1 l1.length l1.length).ownBlock = some k → k < T
  t2 : ∀ k, (Value.slice A2 l2.length l2.length).ownBlock = some k → k < T
section
variable {B q T B' T' : Nat} {pr tr lo hi : Int} {A1 A2 : Option Addr} {l1 l2 : List Int} {W W' : World}
theorem Box.start (h : Rows2 B A1 A2 l1 l2 W) (hB : B ≤ W.heap.size) : Box B W.heap.size (W.heap.size + 1) pr tr lo hi A1 A2 l1 l2 (W.alloc (.cells (sixA pr tr lo hi A1 A2 l1.length l2.length) 28)) := by
  have hb : Below W.heap.size W (W.alloc (.cells (sixA pr tr lo hi A1 A2 l1.length l2.length) 28)) := (Below.refl _ _).alloc (Nat.le_refl _) _
  exact ⟨⟨hB, by omega, by simp⟩, heap_alloc_new W _, ⟨own_below h.o1 hb (Nat.le_refl _), own_below h.o2 hb (Nat.le_refl _), h.ne⟩, fun k e => by have := (h.o1.lt k e).2; omega, fun k e => by have := (h.o2.lt k e).2; omega⟩
theorem Box.below (h : Box B q T pr tr lo hi A1 A2 l1 l2 W) (hb : Below W.heap.size W W') : Box B q T pr tr lo hi A1 A2 l1 l2 W' :=
  ⟨⟨h.pos.1, h.pos.2.1, Nat.le_trans h.pos.2.2 hb.size⟩, (hb.block _ (lt_of_block h.c)).trans h.c, ⟨own_below h.r.o1 hb (Nat.le_refl _), own_below h.r.o2 hb (Nat.le_refl _), h.r.ne⟩, h.t1, h.t2⟩
theorem Box.alloc (h : Box B q T pr tr lo hi A1 A2 l1 l2 W) (o : Obj) : Box B q T pr tr lo hi A1 A2 l1 l2 (W.alloc o) := h.below ((Below.refl _ _).alloc (Nat.le_refl _) _)
theorem Box.far (h : Box B q T pr tr lo hi A1 A2 l1 l2 W) (ht : Turns (fun k => B' ≤ k ∧ k < T') W W') (hT : T' ≤ B) : Box B q T pr tr lo hi A1 A2 l1 l2 W' :=
  ⟨⟨h.pos.1, h.pos.2.1, Nat.le_trans h.pos.2.2 ht.size⟩, (ht.block _ (lt_of_block h.c) (fun e => by have := h.pos.1; omega)).trans h.c,
    ⟨ht.own h.r.o1 (fun k e hk => by have := (h.r.o1.lt k e).1; omega), ht.own h.r.o2 (fun k e hk => by have := (h.r.o2.lt k e).1; omega), h.r.ne⟩, h.t1, h.t2⟩
theorem Box.cells (h : Box B q T pr tr lo hi A1 A2 l1 l2 W) : W.cell? ⟨q, 0, none⟩ = some (.int .i64 pr) ∧ W.cell? ⟨q, 1, none⟩ = some (.int .i64 tr) ∧ W.cell? ⟨q, 2, none⟩ = some (.int .i64 lo) ∧ W.cell? ⟨q, 3, none⟩ = some (.int .i64 hi) ∧ W.cell? ⟨q, 4, none⟩ = some (.slice A1 l1.length l1.length) ∧ W.cell? ⟨q, 5, none⟩ = some (.slice A2 l2.length l2.length) :=
  ⟨cell_of_row _ _ 0 _ _ (0, 0) h.c, cell_of_row _ _ 1 _ _ (0, 0) h.c, cell_of_row _ _ 2 _ _ (0, 0) h.c, cell_of_row _ _ 3 _ _ (0, 0) h.c, cell_of_row _ _ 4 _ _ (0, 0) h.c, cell_of_row _ _ 5 _ _ (0, 0) h.c⟩
theorem ints_of_own {c : Nat} {A : Option Addr} {l : List Int} (h : W.ownsRow B 3 1 (.slice A l.length c) l.length (l.map (Value.int .i64))) : Ints W W.heap.size A l := Reads.of_own h
theorem Box.same {B2 q2 T2 : Nat} {A3 A4 : Option Addr} (h : Box B q T pr tr lo hi A1 A2 l1 l2 W) (h2 : Box B2 q2 T2 pr tr lo hi A3 A4 l1 l2 W) (hl : l1.length ≤ 4096 ∧ l2.length ≤ 4096) :
    Calls Try.prog 19 #[.agg (sixA pr tr lo hi A1 A2 l1.length l2.length), .agg (sixA pr tr lo hi A3 A4 l1.length l2.length)] W (ValPost (.bool true) W) :=
  same_any pr tr lo hi A1 A2 A3 A4 _ _ _ _ l1 l2 W (ints_of_own h.r.o1) (ints_of_own h.r.o2) (ints_of_own h2.r.o1) (ints_of_own h2.r.o2) (by omega) (by omega)
end
/-- The first answer, while it is written over. -/
structure Wiped (W0 : World) (B q T : Nat) (pr tr lo hi : Int) (A1 A2 : Option Addr) (n1 n2 : Nat) (W : World) : Prop where
  t : Turns (fun k => B ≤ k ∧ k < T) W0 W
  c : W.heap[q]? = some (.cells (sixA pr tr lo hi A1 A2 n1 n2) 28 (0, 0))
  o1 : ∃ xs, W.ownsRow B 3 1 (.slice A1 n1 n1) n1 xs
  o2 : ∃ xs, W.ownsRow B 3 1 (.slice A2 n2 n2) n2 xs
  ne : ∀ k, (Value.slice A1 n1 n1).ownBlock = some k → (Value.slice A2 n2 n2).ownBlock ≠ some k
  tq : B ≤ q ∧ q < T
  t1 : ∀ k, (Value.slice A1 n1 n1).ownBlock = some k → k < T
  t2 : ∀ k, (Value.slice A2 n2 n2).ownBlock = some k → k < T
section
variable {W0 W W' : World} {B q T : Nat} {pr tr lo hi : Int} {A1 A2 : Option Addr} {n1 n2 : Nat}
theorem Box.wiped {l1 l2 : List Int} (h : Box B q T pr tr lo hi A1 A2 l1 l2 W) : Wiped W B q T pr tr lo hi A1 A2 l1.length l2.length W :=
  ⟨Turns.refl _ _, h.c, ⟨_, h.r.o1⟩, ⟨_, h.r.o2⟩, h.r.ne, ⟨h.pos.1, h.pos.2.1⟩, h.t1, h.t2⟩
theorem own_neq {W : World} {B q n : Nat} {v : Value} {xs : List Value} {cs : Array Value} (h : W.ownsRow B 3 1 v n xs) (hq : W.heap[q]? = some (.cells cs 28 (0, 0))) : v.ownBlock ≠ some q :=
  own_ne h hq (fun cur e => by injection e with _ e _; exact absurd e (by decide))
theorem Wiped.set1 (h : Wiped W0 B q T pr tr lo hi A1 A2 n1 n2 W) {g : Nat} (hA : A1 = some ⟨g, 0, none⟩) (k : Nat) (v : Value) : Wiped W0 B q T pr tr lo hi A1 A2 n1 n2 (W.setCell ⟨g, k, none⟩ v) := by
  subst hA
  obtain ⟨xs, h1⟩ := h.o1
  obtain ⟨ys, h2⟩ := h.o2
  have hg : q ≠ g := fun e => own_neq h1 h.c (by rw [e]; rfl)
  refine ⟨h.t.trans ((Turns.of_set W ⟨g, k, none⟩ v).mono (fun j _ e => ?_)), (Below.heap_setCell _ _ _ _ hg).trans h.c, ⟨_, (h1.stored k v).1⟩, ⟨_, ownsRow_setCell_other h2 (h.ne g rfl) _⟩, h.ne, h.tq, h.t1, h.t2⟩
  have e1 : j = g := e
  subst e1
  exact ⟨(h1.lt _ rfl).1, h.t1 _ rfl⟩
theorem Wiped.set2 (h : Wiped W0 B q T pr tr lo hi A1 A2 n1 n2 W) {g : Nat} (hA : A2 = some ⟨g, 0, none⟩) (k : Nat) (v : Value) : Wiped W0 B q T pr tr lo hi A1 A2 n1 n2 (W.setCell ⟨g, k, none⟩ v) := by
  subst hA
  obtain ⟨xs, h1⟩ := h.o1
  obtain ⟨ys, h2⟩ := h.o2
  have hg : q ≠ g := fun e => own_neq h2 h.c (by rw [e]; rfl)
  refine ⟨h.t.trans ((Turns.of_set W ⟨g, k, none⟩ v).mono (fun j _ e => ?_)), (Below.heap_setCell _ _ _ _ hg).trans h.c, ⟨_, ownsRow_setCell_other h1 (fun e => h.ne g e rfl) _⟩, ⟨_, (h2.stored k v).1⟩, h.ne, h.tq, h.t1, h.t2⟩
  have e1 : j = g := e
  subst e1
  exact ⟨(h2.lt _ rfl).1, h.t2 _ rfl⟩
theorem Wiped.cells (h : Wiped W0 B q T pr tr lo hi A1 A2 n1 n2 W) : W.cell? ⟨q, 4, none⟩ = some (.slice A1 n1 n1) ∧ W.cell? ⟨q, 5, none⟩ = some (.slice A2 n2 n2) :=
  ⟨cell_of_row _ _ 4 _ _ (0, 0) h.c, cell_of_row _ _ 5 _ _ (0, 0) h.c⟩
theorem Wiped.row1 (h : Wiped W0 B q T pr tr lo hi A1 A2 n1 n2 W) {k : Nat} (hk : k < n1) : ∃ g u, A1 = some ⟨g, 0, none⟩ ∧ W.cell? ⟨g, k, none⟩ = some u ∧ W.frozen? ⟨g, k, none⟩ = false := by
  obtain ⟨xs, h1⟩ := h.o1
  obtain ⟨g, cap, e⟩ := own_at h1 (by omega)
  injection e with e _ _
  subst e
  refine ⟨g, xs[k]'(by have := h1.1; omega), rfl, ?_, h1.frozenAt k⟩
  rw [h1.cellAt k (by omega), List.getElem?_eq_getElem]
theorem Wiped.row2 (h : Wiped W0 B q T pr tr lo hi A1 A2 n1 n2 W) {k : Nat} (hk : k < n2) : ∃ g u, A2 = some ⟨g, 0, none⟩ ∧ W.cell? ⟨g, k, none⟩ = some u ∧ W.frozen? ⟨g, k, none⟩ = false := by
  obtain ⟨xs, h1⟩ := h.o2
  obtain ⟨g, cap, e⟩ := own_at h1 (by omega)
  injection e with e _ _
  subst e
  refine ⟨g, xs[k]'(by have := h1.1; omega), rfl, ?_, h1.frozenAt k⟩
  rw [h1.cellAt k (by omega), List.getElem?_eq_getElem]
theorem Wiped.appended (h : Wiped W0 B q T pr tr lo hi A1 A2 n1 n2 W) (o : Obj) {w' : World} (hg : (W.alloc o).grownBy w' (Value.slice A1 n1 n1).ownBlock) :
    w'.heap[q]? = some (.cells (sixA pr tr lo hi A1 A2 n1 n2) 28 (0, 0)) ∧ ∀ v, Turns (fun k => B ≤ k ∧ k < T) W0 (w'.setCell ⟨q, 4, none⟩ v) := by
  obtain ⟨xs, h1⟩ := h.o1
  have hq := lt_of_block h.c
  have hb : Below W.heap.size W (W.alloc o) := (Below.refl _ _).alloc (Nat.le_refl _) _
  have ht1 : Turns (fun k => B ≤ k ∧ k < T) (W.alloc o) w' := (Turns.of_grown hg).mono (fun k _ e => ⟨(h1.lt k e).1, h.t1 k e⟩)
  refine ⟨?_, fun v => ?_⟩
  · rw [hg.block q (by simp; omega) (fun e => own_neq h1 h.c e.symm)]
    exact (hb.block q hq).trans h.c
  · refine ((h.t.trans (Turns.of_below hb)).trans ht1).trans ((Turns.of_set w' ⟨q, 4, none⟩ v).mono (fun k _ e => ?_))
    have e1 : k = q := e
    rw [e1]
    exact h.tq
end

set_option maxRecDepth 100000 in
set_option maxHeartbeats 16000000 in
theorem clears_any (A : Option Addr) (c : Nat) (b : List (Int × Int)) (A' : Option Addr) (c' : Nat) (s : List (Int × Int)) (price : Int) (w : World) (h : Wants w w.heap.size A b) (h' : Wants w w.heap.size A' s) (hbl : b.length * 16 ≤ 140737488351232) (hsl : s.length * 16 ≤ 140737488351232) :
    Calls Try.prog 3 #[.slice A b.length c, .slice A' s.length c', .int .i64 price] w (ValPost (.bool true) w) := by
  have HW := hide h
  have HW' := hide h'
  have HBL := hide hbl
  have HSL := hide hsl
  clear h h' hbl hsl
  go_enter Try.func3, Try.ntmps3
  go_wp2_with fail
  refine (great_any A c b.length w).mono ?_
  rintro e w1 ⟨rfl, hb1⟩
  have HB1 := hide hb1
  clear hb1
  by_cases hg : greatN b.length = true
  · rw [hg]
    go_wp2_with fail
    refine (known_any w1).mono ?_
    rintro e w2 ⟨rfl, hb2⟩
    have HB2 := hide (HB1.out.trans (hb2.mono HB1.out.size))
    clear hb2
    go_wp2_with fail
    go_ret
    exact ⟨rfl, HB2.out⟩
  rw [Bool.not_eq_true] at hg
  rw [hg]
  clear hg
  go_wp2_with fail
  refine (great_any A' c' s.length w1).mono ?_
  rintro e w2 ⟨rfl, hb2⟩
  have HB2 := hide (HB1.out.trans (hb2.mono HB1.out.size))
  clear hb2 HB1
  by_cases hg : greatN s.length = true
  · rw [hg]
    go_wp2_with fail
    refine (known_any w2).mono ?_
    rintro e w3 ⟨rfl, hb3⟩
    have HB3 := hide (HB2.out.trans (hb3.mono HB2.out.size))
    clear hb3
    go_wp2_with fail
    go_ret
    exact ⟨rfl, HB3.out⟩
  rw [Bool.not_eq_true] at hg
  rw [hg]
  clear hg
  go_wp2_with fail
  refine (lent_any A c b w2 ((HW.out.below HB2.out).more HB2.out.size) HBL.out).mono ?_
  rintro e w3 ⟨g1, c1, rfl, hr1, hb3⟩
  have HB3 := hide (HB2.out.trans (hb3.mono HB2.out.size))
  have HR1 := hide (own_base hr1 HB2.out.size)
  clear hb3 hr1
  go_wp2_with fail
  refine (lent_any A' c' s w3 ((HW'.out.below HB3.out).more HB3.out.size) HSL.out).mono ?_
  rintro e w4 ⟨g2, c2, rfl, hr2, hb4⟩
  have HL4 : Hid (LentS w g1 c1 b g2 c2 s w4) := hide ⟨HB3.out.trans (hb4.mono HB3.out.size), own_below HR1.out hb4 (Nat.le_refl _), own_base hr2 HB3.out.size⟩
  clear hb4 hr2 HB3 HR1 HB2
  have hCC : ∃ pr tr lo hi l1 l2, clrA b s = (pr, tr, lo, hi, l1, l2) := ⟨_, _, _, _, _, _, rfl⟩
  obtain ⟨pr, tr, lo, hi, l1, l2, hC⟩ := hCC
  have HC := hide hC
  have HLN := hide (clrA_len hC)
  obtain ⟨ck, hck⟩ : ∃ ck, checkI b s = ck := ⟨_, rfl⟩
  have HCK := hide hck
  clear hC hck
  -- the first call
  go_wp2_with fail
  refine (clear_any (some ⟨g1, 0, none⟩) c1 b (some ⟨g2, 0, none⟩) c2 s w4 HL4.out.wb HL4.out.ws).mono ?_
  rintro e w5 hcl
  obtain ⟨hb5, A1, A2, rfl, hrw⟩ := clear_two HC.out hcl
  rw [HCK.out]
  have HL5 := hide ((HL4.out.below hb5).alloc (.cells (sixA pr tr lo hi A1 A2 l1.length l2.length) 28))
  have HX5 := hide (Box.start (pr := pr) (tr := tr) (lo := lo) (hi := hi) hrw hb5.size)
  have HLO : Hid (w.heap.size ≤ w4.heap.size) := hide HL4.out.bel.size
  clear hcl hb5 hrw HL4
  unfold sixA at HX5 HL5
  go_wp2_with fail
  obtain ⟨q1, hq1⟩ : ∃ q, q = w5.heap.size := ⟨_, rfl⟩
  rw [← hq1] at HX5 ⊢
  generalize w5.alloc (.cells #[.int .i64 pr, .int .i64 tr, .int .i64 lo, .int .i64 hi, .slice A1 l1.length l1.length, .slice A2 l2.length l2.length] 28) = u5 at *
  clear hq1
  -- the second
  refine (clear_any (some ⟨g1, 0, none⟩) c1 b (some ⟨g2, 0, none⟩) c2 s u5 HL5.out.wb HL5.out.ws).mono ?_
  rintro e w6 hcl
  obtain ⟨hb6, A3, A4, rfl, hrw⟩ := clear_two HC.out hcl
  rw [HCK.out]
  have HL6 := hide ((HL5.out.below hb6).alloc (.cells (sixA pr tr lo hi A3 A4 l1.length l2.length) 28))
  have HX6 := hide ((HX5.out.below hb6).alloc (.cells (sixA pr tr lo hi A3 A4 l1.length l2.length) 28))
  have HY6 := hide (Box.start (pr := pr) (tr := tr) (lo := lo) (hi := hi) hrw hb6.size)
  have HT1 : Hid (q1 + 1 ≤ u5.heap.size) := hide HX5.out.pos.2.2
  clear hcl hb6 hrw HL5 HX5
  unfold sixA at HX6 HY6 HL6
  go_wp2_with fail
  obtain ⟨q2, hq2⟩ : ∃ q, q = w6.heap.size := ⟨_, rfl⟩
  rw [← hq2] at HY6 ⊢
  generalize w6.alloc (.cells #[.int .i64 pr, .int .i64 tr, .int .i64 lo, .int .i64 hi, .slice A3 l1.length l1.length, .slice A4 l2.length l2.length] 28) = u6 at *
  clear hq2
  -- the document's
  refine (refclear_any A c b A' c' s u6 ((HW.out.below HL6.out.bel).more HL6.out.bel.size) ((HW'.out.below HL6.out.bel).more HL6.out.bel.size)).mono ?_
  rintro e w7 hcl
  obtain ⟨hb7, A5, A6, rfl, hrw⟩ := clear_two HC.out hcl
  rw [HCK.out]
  have HL7 := hide ((HL6.out.below hb7).alloc (.cells (sixA pr tr lo hi A5 A6 l1.length l2.length) 28))
  have HX7 := hide ((HX6.out.below hb7).alloc (.cells (sixA pr tr lo hi A5 A6 l1.length l2.length) 28))
  have HY7 := hide ((HY6.out.below hb7).alloc (.cells (sixA pr tr lo hi A5 A6 l1.length l2.length) 28))
  have HZ7 := hide (Box.start (pr := pr) (tr := tr) (lo := lo) (hi := hi) hrw hb7.size)
  have HT2 : Hid (q1 + 1 ≤ u6.heap.size) := hide HX6.out.pos.2.2
  clear hcl hb7 hrw HL6 HX6 HY6
  unfold sixA at HX7 HY7 HZ7 HL7
  go_wp2_with fail
  obtain ⟨q3, hq3⟩ : ∃ q, q = w7.heap.size := ⟨_, rfl⟩
  rw [← hq3] at HZ7 ⊢
  generalize w7.alloc (.cells #[.int .i64 pr, .int .i64 tr, .int .i64 lo, .int .i64 hi, .slice A5 l1.length l1.length, .slice A6 l2.length l2.length] 28) = u7 at *
  clear hq3
  -- what is gained
  obtain ⟨⟨G, GE⟩, hG⟩ : ∃ G, gainsA b s = G := ⟨_, rfl⟩
  obtain ⟨⟨X, Y, J⟩, hX⟩ : ∃ X, atA b s price = X := ⟨_, rfl⟩
  refine (gains_any (some ⟨g1, 0, none⟩) c1 b (some ⟨g2, 0, none⟩) c2 s u7 HL7.out.wb HL7.out.ws (fun e => by cases e) (fun e => by cases e)).mono ?_
  rw [hG]
  rintro e w8 ⟨rfl, hb8⟩
  have HL8 := hide (HL7.out.below hb8)
  have HX8 := hide (HX7.out.below hb8)
  have HY8 := hide (HY7.out.below hb8)
  have HZ8 := hide (HZ7.out.below hb8)
  have HG := hide hG
  have HXX := hide hX
  clear hb8 HL7 HX7 HY7 HZ7 hG hX
  go_wp2_with fail
  refine (refgains_any A c b A' c' s w8 ((HW.out.below HL8.out.bel).more HL8.out.bel.size) ((HW'.out.below HL8.out.bel).more HL8.out.bel.size)).mono ?_
  rw [HG.out]
  rintro e w9 ⟨rfl, hb9⟩
  have HL9 := hide (HL8.out.below hb9)
  have HX9 := hide (HX8.out.below hb9)
  have HY9 := hide (HY8.out.below hb9)
  have HZ9 := hide (HZ8.out.below hb9)
  clear hb9 HL8 HX8 HY8 HZ8
  go_wp2_with fail
  refine (priceAt_any (some ⟨g1, 0, none⟩) c1 b (some ⟨g2, 0, none⟩) c2 s price w9 HL9.out.wb HL9.out.ws).mono ?_
  rw [HXX.out]
  rintro e w10 ⟨rfl, hb10⟩
  have HL10 := hide (HL9.out.below hb10)
  have HX10 := hide (HX9.out.below hb10)
  have HY10 := hide (HY9.out.below hb10)
  have HZ10 := hide (HZ9.out.below hb10)
  clear hb10 HL9 HX9 HY9 HZ9
  go_wp2_with fail
  refine (refat_any A c b A' c' s price w10 ((HW.out.below HL10.out.bel).more HL10.out.bel.size) ((HW'.out.below HL10.out.bel).more HL10.out.bel.size)).mono ?_
  rw [HXX.out]
  rintro e w11 ⟨rfl, hb11⟩
  have HL11 := hide (HL10.out.below hb11)
  have HX11 := hide (HX10.out.below hb11)
  have HY11 := hide (HY10.out.below hb11)
  have HZ11 := hide (HZ10.out.below hb11)
  clear hb11 HL10 HX10 HY10 HZ10
  go_wp2_with fail
  refine (num_any ck w11).mono ?_
  rintro e w12 ⟨rfl, hb12⟩
  have HL12 := hide (HL11.out.below hb12)
  have HX12 := hide (HX11.out.below hb12)
  have HY12 := hide (HY11.out.below hb12)
  have HZ12 := hide (HZ11.out.below hb12)
  clear hb12 HL11 HX11 HY11 HZ11
  go_wp2_with fail
  refine (check_any (some ⟨g1, 0, none⟩) c1 b (some ⟨g2, 0, none⟩) c2 s w12 HL12.out.wb HL12.out.ws).mono ?_
  rintro e w13 ⟨rfl, hb13⟩
  rw [HCK.out]
  have HL13 := hide (HL12.out.below hb13)
  have HX13 := hide (HX12.out.below hb13)
  have HY13 := hide (HY12.out.below hb13)
  have HZ13 := hide (HZ12.out.below hb13)
  clear hb13 HL12 HX12 HY12 HZ12
  go_wp2_with fail
  refine (num_any ck w13).mono ?_
  rintro e w14 ⟨rfl, hb14⟩
  have HL14 := hide (HL13.out.below hb14)
  have HX14 := hide (HX13.out.below hb14)
  have HY14 := hide (HY13.out.below hb14)
  have HZ14 := hide (HZ13.out.below hb14)
  clear hb14 HL13 HX13 HY13 HZ13
  obtain ⟨x0, x1, x2, x3, x4, x5⟩ := HX14.out.cells
  obtain ⟨z0, z1, z2, z3, z4, z5⟩ := HZ14.out.cells
  go_wp2_with fail
  refine (HX14.out.same HZ14.out HLN.out).mono ?_
  rintro e w15 ⟨rfl, hb15⟩
  have HL15 := hide (HL14.out.below hb15)
  have HX15 := hide (HX14.out.below hb15)
  have HY15 := hide (HY14.out.below hb15)
  have HZ15 := hide (HZ14.out.below hb15)
  clear hb15 HL14 HX14 HY14 HZ14
  clear x0 x1 x2 x3 x4 x5 z0 z1 z2 z3 z4 z5
  go_wp2_with fail
  refine (num_any GE w15).mono ?_
  rintro e w16 ⟨rfl, hb16⟩
  have HL16 := hide (HL15.out.below hb16)
  have HX16 := hide (HX15.out.below hb16)
  have HY16 := hide (HY15.out.below hb16)
  have HZ16 := hide (HZ15.out.below hb16)
  clear hb16 HL15 HX15 HY15 HZ15
  go_wp2_with fail
  refine (num_any J w16).mono ?_
  rintro e w17 ⟨rfl, hb17⟩
  have HL17 := hide (HL16.out.below hb17)
  have HX17 := hide (HX16.out.below hb17)
  have HY17 := hide (HY16.out.below hb17)
  have HZ17 := hide (HZ16.out.below hb17)
  clear hb17 HL16 HX16 HY16 HZ16
  go_wp2_with fail
  refine (left_any g1 c1 A c b w17 (wants_of_lent HL17.out.r1).1 ((HW.out.below HL17.out.bel).more HL17.out.bel.size) (wants_of_lent HL17.out.r1).2.2 HBL.out).mono ?_
  rintro e w18 ⟨rfl, hb18⟩
  have HL18 := hide (HL17.out.below hb18)
  have HX18 := hide (HX17.out.below hb18)
  have HY18 := hide (HY17.out.below hb18)
  have HZ18 := hide (HZ17.out.below hb18)
  clear hb18 HL17 HX17 HY17 HZ17
  go_wp2_with fail
  refine (left_any g2 c2 A' c' s w18 (wants_of_lent HL18.out.r2).1 ((HW'.out.below HL18.out.bel).more HL18.out.bel.size) (wants_of_lent HL18.out.r2).2.2 HSL.out).mono ?_
  rintro e w19 ⟨rfl, hb19⟩
  have HL19 := hide (HL18.out.below hb19)
  have HX19 := hide (HX18.out.below hb19)
  have HY19 := hide (HY18.out.below hb19)
  have HZ19 := hide (HZ18.out.below hb19)
  clear hb19 HL18 HX18 HY18 HZ18
  have HBE := hide HL19.out.bel
  have HWP := hide HX19.out.wiped
  clear HL19 HX19
  go_wp2_with fail
  have HTA : Hid (q1 + 1 ≤ u5.heap.size ∧ q1 + 1 ≤ u6.heap.size ∧ w.heap.size ≤ w4.heap.size) := hide ⟨HT1.out, HT2.out, HLO.out⟩
  clear HG HXX HC HCK HW HW' HBL HSL HT1 HT2 HLO
  have hn1 : l1.length ≤ 4096 := HLN.out.1
  have hn2 : l2.length ≤ 4096 := HLN.out.2
  go_loopw [25] (fun iv wr => ∃ k : Nat, k ≤ l1.length ∧ iv = .int .i64 k ∧ Wiped w19 w4.heap.size q1 (q1 + 1) pr tr lo hi A1 A2 l1.length l2.length wr) (fun iv _ => l1.length - (intOf iv).toNat)
  case atStart => exact ⟨0, Nat.zero_le _, rfl, HWP.out⟩
  case round =>
    clear HWP
    obtain ⟨k, hk, rfl, hwp⟩ := hrel
    have HWP := hide hwp
    clear hwp
    by_cases hlt : k < l1.length
    · obtain ⟨g, u, hA1, hu, hfz⟩ := HWP.out.row1 hlt
      subst hA1
      obtain ⟨x4, x5⟩ := HWP.out.cells
      have hki : (k : Int) < (l1.length : Int) := by omega
      have HS := hide (HWP.out.set1 rfl k (.int .i64 (-9)))
      go_wp2_with fail
      go_roundw
      case rel => exact ⟨k + 1, by omega, by go_num, HS.out⟩
      case measure => simp [intOf]; omega
    · obtain rfl : k = l1.length := by omega
      obtain ⟨x4, x5⟩ := HWP.out.cells
      go_wp2_with fail
      clear x4 x5
      go_loopw [26] (fun iv wr2 => ∃ k : Nat, k ≤ l2.length ∧ iv = .int .i64 k ∧ Wiped w19 w4.heap.size q1 (q1 + 1) pr tr lo hi A1 A2 l1.length l2.length wr2) (fun iv _ => l2.length - (intOf iv).toNat)
      case atStart => exact ⟨0, Nat.zero_le _, rfl, HWP.out⟩
      case round =>
        clear HWP
        obtain ⟨k, hk, rfl, hwp⟩ := hrel
        have HWP := hide hwp
        clear hwp
        by_cases hlt : k < l2.length
        · obtain ⟨g, u, hA2, hu, hfz⟩ := HWP.out.row2 hlt
          subst hA2
          obtain ⟨x4, x5⟩ := HWP.out.cells
          have hki : (k : Int) < (l2.length : Int) := by omega
          have HS := hide (HWP.out.set2 rfl k (.int .i64 (-9)))
          go_wp2_with fail
          go_roundw
          case rel => exact ⟨k + 1, by omega, by go_num, HS.out⟩
          case measure => simp [intOf]; omega
        · obtain rfl : k = l2.length := by omega
          obtain ⟨x4, x5⟩ := HWP.out.cells
          obtain ⟨xs, ho⟩ := HWP.out.o1
          have HO := hide ho
          have hBw : w4.heap.size ≤ wr.heap.size := by
            have h1 := lt_of_block HWP.out.c
            have h2 := HWP.out.tq
            omega
          have HBW := hide hBw
          have G5 : Hid (l1.length + 1 ≤ maxLen) := hide (by unfold maxLen; omega)
          have G6 : Hid ((l1.length + 1) * 8 ≤ 140737488355328) := hide (by omega)
          have G1 : Hid (∀ u ∈ [Value.int .i64 (-9)], u.oneCell' = true) := hide (fun u hu => by rw [List.mem_singleton.1 hu]; rfl)
          clear ho hBw
          go_wp2_with (at_builtin; refine wpList_append_any rfl (.tmp 164) (.tmp 165) 26 rfl w4.heap.size 3 _ 1 8 infoI Try.underlying26 rfl (by decide) _ l1.length xs rfl (own_below HO.out ((Below.refl _ _).alloc (Nat.le_refl _) _) (Nat.le_refl _)) _ (some ⟨wr.heap.size, 0, none⟩) 1 1 [.int .i64 (-9)] rfl (ints_row (l := [-9]) (heap_alloc_new wr _)) G1.out G5.out G6.out (by have := HBW.out; simp; omega) ?_; intro v1 w1' hown1 hg1 _; obtain ⟨A7, c7, hv1, _⟩ := own_sh hown1; subst hv1; obtain ⟨hq7, ht7⟩ := HWP.out.appended _ hg1; have x8 := cell_of_row _ _ 4 _ _ (0, 0) hq7; have x9 := frozen_of_row _ _ 4 _ _ hq7; have HT7 := hide (ht7 (.slice A7 (l1.length + 1) c7)); have HY20 := hide (HY19.out.far HT7.out HTA.out.1); have HZ20 := hide (HZ19.out.far HT7.out HTA.out.2.1); obtain ⟨y0, y1, y2, y3, y4, y5⟩ := HY20.out.cells; obtain ⟨z0, z1, z2, z3, z4, z5⟩ := HZ20.out.cells; clear hown1 hg1 hq7 ht7)
          have HBF : Hid (Below w.heap.size w (w1'.setCell ⟨q1, 4, none⟩ (.slice A7 (l1.length + 1) c7))) := hide (HBE.out.trans (HT7.out.below HBE.out.size (fun k hk e => by have := HTA.out.2.2; omega)))
          refine (HY20.out.same HZ20.out HLN.out).mono ?_
          generalize w1'.setCell ⟨q1, 4, none⟩ (.slice A7 (l1.length + 1) c7) = w20 at *
          rintro e w21 ⟨rfl, hb21⟩
          have HB21 := hide (HBF.out.trans (hb21.mono HBF.out.size))
          clear hb21 HBF x8 x9 x4 x5 y0 y1 y2 y3 y4 y5 z0 z1 z2 z3 z4 z5 HT7 HY20 HZ20 HY19 HZ19 HWP
          go_wp2_with fail
          refine (known_any w21).mono ?_
          rintro e w22 ⟨rfl, hb22⟩
          have HB22 := hide (HB21.out.trans (hb22.mono HB21.out.size))
          clear hb22
          go_wp2_with fail
          go_ret
          exact ⟨rfl, HB22.out⟩
end Go.Proofs.Ytogicdljbnllgaa
