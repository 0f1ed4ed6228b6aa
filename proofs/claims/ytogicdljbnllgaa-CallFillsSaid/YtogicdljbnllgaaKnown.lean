/- The walk of the law's known row. -/
import Derived.Test.YtogicdljbnllgaaKnw
import Derived.Test.YtogicdljbnllgaaSmall
import Derived.Test.YtogicdljbnllgaaClear
namespace Go.Proofs.Ytogicdljbnllgaa
open Go.Shelf Go.RowKit Go.Lib Go.Sort Go.Proofs

attribute [local go_sem] Oper.semAt_some

theorem wants_row {W : World} {g : Nat} {l : List (Int × Int)} {e : TypeId} {fr : Nat × Nat} (h : W.heap[g]? = some (.cells (flat l).toArray e fr)) : Wants W W.heap.size (some ⟨g, 0, none⟩) l := by
  refine ⟨flat_len l, fun _ => ⟨g, 0, rfl, lt_of_block h, fun j u hj => ?_⟩⟩
  have := cell_of_row W g j _ _ fr h
  rw [Nat.zero_add, this]
  simpa using hj
theorem ints_row {W : World} {g : Nat} {l : List Int} {e : TypeId} {fr : Nat × Nat} (h : W.heap[g]? = some (.cells (rowI l) e fr)) : Ints W W.heap.size (some ⟨g, 0, none⟩) l := by
  refine ⟨by simp, fun _ => ⟨g, 0, rfl, lt_of_block h, fun j u hj => ?_⟩⟩
  have := cell_of_row W g j _ _ fr h
  rw [Nat.zero_add, this]
  unfold rowI
  simpa using hj

/-- What lies ahead of the calls. -/
structure KnW (w W : World) : Prop where
  bel : Below w.heap.size w W
  r : W.heap[w.heap.size]? = some (.cells #[.bool false] 4 (0, 0))
  b : W.heap[w.heap.size + 1]? = some (.cells #[.int .i64 10, .int .i64 2, .int .i64 8, .int .i64 1] 51 (0, 0))
  s : W.heap[w.heap.size + 1 + 1]? = some (.cells #[.int .i64 5, .int .i64 1, .int .i64 9, .int .i64 3] 51 (0, 0))
theorem KnW.below {w W W' : World} (h : KnW w W) (hb : Below W.heap.size W W') : KnW w W' :=
  ⟨h.bel.trans (hb.mono h.bel.size), (hb.block _ (lt_of_block h.r)).trans h.r, (hb.block _ (lt_of_block h.b)).trans h.b, (hb.block _ (lt_of_block h.s)).trans h.s⟩
theorem KnW.start (w : World) : KnW w (((w.alloc (.cells #[.bool false] 4)).alloc (.cells #[.int .i64 10, .int .i64 2, .int .i64 8, .int .i64 1] 51)).alloc (.cells #[.int .i64 5, .int .i64 1, .int .i64 9, .int .i64 3] 51)) := by
  refine ⟨(((Below.refl _ _).alloc (Nat.le_refl _) _).alloc (by simp) _).alloc (by simp; omega) _, ?_, ?_, ?_⟩
  · rw [Below.heap_alloc _ _ _ (by simp; omega), Below.heap_alloc _ _ _ (by simp)]; exact heap_alloc_new w _
  · rw [Below.heap_alloc _ _ _ (by simp)]
    have := heap_alloc_new (w.alloc (.cells #[.bool false] 4)) (.cells #[.int .i64 10, .int .i64 2, .int .i64 8, .int .i64 1] 51)
    rwa [World.size_alloc] at this
  · have := heap_alloc_new ((w.alloc (.cells #[.bool false] 4)).alloc (.cells #[.int .i64 10, .int .i64 2, .int .i64 8, .int .i64 1] 51)) (.cells #[.int .i64 5, .int .i64 1, .int .i64 9, .int .i64 3] 51)
    rwa [World.size_alloc, World.size_alloc] at this
theorem KnW.wants {w W : World} (h : KnW w W) : Wants W W.heap.size (some ⟨w.heap.size + 1, 0, none⟩) kb ∧ Wants W W.heap.size (some ⟨w.heap.size + 1 + 1, 0, none⟩) ks := ⟨wants_row (l := kb) h.b, wants_row (l := ks) h.s⟩
theorem known_clear {w W : World} (h : KnW w W) : Calls Try.prog 11 #[.slice (some ⟨w.heap.size + 1, 0, none⟩) 2 2, .slice (some ⟨w.heap.size + 1 + 1, 0, none⟩) 2 2] W fun e W' =>
    ∃ g1 g2, e = .returned (.tuple #[.agg #[.int .i64 9, .int .i64 2, .int .i64 9, .int .i64 9, .slice (some ⟨g1, 0, none⟩) 2 2, .slice (some ⟨g2, 0, none⟩) 2 2], .int .i64 0]) ∧ Below W.heap.size W W' ∧ W'.heap[g1]? = some (.cells (rowI [2, 0]) 3 (0, 0)) ∧ W'.heap[g2]? = some (.cells (rowI [1, 1]) 3 (0, 0)) := by
  refine (clear_any _ 2 kb _ 2 ks W h.wants.1 h.wants.2).mono ?_
  rintro e W' ⟨hb, ⟨hno, _⟩ | ⟨_, g1, g2, he, _, _, _, h1, h2⟩⟩
  · exact absurd check_known hno
  · rw [clr_known] at he h1 h2
    exact ⟨g1, g2, he, hb, h1, h2⟩
theorem known_gains {w W : World} (h : KnW w W) : Calls Try.prog 13 #[.slice (some ⟨w.heap.size + 1, 0, none⟩) 2 2, .slice (some ⟨w.heap.size + 1 + 1, 0, none⟩) 2 2] W (ValPost (.tuple #[.int .i64 6, .int .i64 0]) W) := by
  have := gains_any (some ⟨w.heap.size + 1, 0, none⟩) 2 kb (some ⟨w.heap.size + 1 + 1, 0, none⟩) 2 ks W h.wants.1 h.wants.2 (fun e => by cases e) (fun e => by cases e)
  rw [gains_known] at this
  exact this
theorem known_at {w W : World} (h : KnW w W) : Calls Try.prog 15 #[.slice (some ⟨w.heap.size + 1, 0, none⟩) 2 2, .slice (some ⟨w.heap.size + 1 + 1, 0, none⟩) 2 2, .int .i64 9] W (ValPost (.tuple #[.int .i64 2, .int .i64 4, .int .i64 0]) W) := by
  have := priceAt_any (some ⟨w.heap.size + 1, 0, none⟩) 2 kb (some ⟨w.heap.size + 1 + 1, 0, none⟩) 2 ks 9 W h.wants.1 h.wants.2
  rw [at_known] at this
  exact this
theorem known_fills {w W : World} (h : KnW w W) : Calls Try.prog 21 #[.slice (some ⟨w.heap.size + 1, 0, none⟩) 2 2, .slice (some ⟨w.heap.size + 1 + 1, 0, none⟩) 2 2] W (FillsP kb ks W) :=
  fills_any (some ⟨w.heap.size + 1, 0, none⟩) 2 kb (some ⟨w.heap.size + 1 + 1, 0, none⟩) 2 ks W h.wants.1 h.wants.2 (by decide) (by decide) (fun e => by cases e) (fun e => by cases e)
/-- And what Clear has answered. -/
structure KnC (w : World) (q g1 g2 : Nat) (W : World) : Prop where
  k : KnW w W
  c : W.heap[q]? = some (.cells #[.int .i64 9, .int .i64 2, .int .i64 9, .int .i64 9, .slice (some ⟨g1, 0, none⟩) 2 2, .slice (some ⟨g2, 0, none⟩) 2 2] 28 (0, 0))
  g1 : W.heap[g1]? = some (.cells (rowI [2, 0]) 3 (0, 0))
  g2 : W.heap[g2]? = some (.cells (rowI [1, 1]) 3 (0, 0))
theorem KnC.below {w W W' : World} {q g1 g2 : Nat} (h : KnC w q g1 g2 W) (hb : Below W.heap.size W W') : KnC w q g1 g2 W' :=
  ⟨h.k.below hb, (hb.block _ (lt_of_block h.c)).trans h.c, (hb.block _ (lt_of_block h.g1)).trans h.g1, (hb.block _ (lt_of_block h.g2)).trans h.g2⟩

theorem KnC.turns {w W W' : World} {q g1 g2 n : Nat} (h : KnC w q g1 g2 W) (hn : W.heap.size ≤ n + 1) (hq : q ≠ n ∧ g1 ≠ n ∧ g2 ≠ n ∧ w.heap.size + 2 < n) (ht : Turns (fun k => k = n) W W') : KnC w q g1 g2 W' :=
  ⟨⟨h.k.bel.trans (ht.below h.k.bel.size (fun k hk e => by omega)), (ht.block _ (lt_of_block h.k.r) (by omega)).trans h.k.r, (ht.block _ (lt_of_block h.k.b) (by omega)).trans h.k.b, (ht.block _ (lt_of_block h.k.s) (by omega)).trans h.k.s⟩,
    (ht.block _ (lt_of_block h.c) hq.1).trans h.c, (ht.block _ (lt_of_block h.g1) hq.2.1).trans h.g1, (ht.block _ (lt_of_block h.g2) hq.2.2.1).trans h.g2⟩
/-- How far the range of known is. -/
structure KnI (n : Nat) (w7 : World) (pre : List Trd) (W : World) : Prop where
  c : W.heap[n]? = some (.cells #[.int .i64 (pre.length : Int)] 3 (0, 0))
  t : Turns (fun k => k = n) w7 W
theorem KnI.low {n : Nat} {w7 : World} (hn : n < w7.heap.size) : LowFrom w7.heap.size (KnI n w7) := fun s A C h hb =>
  ⟨(hb.block _ hn).trans h.c, ⟨hb.os.trans h.t.os, hb.tape.trans h.t.tape, hb.output.trans h.t.output, Nat.le_trans h.t.size hb.size, fun k hk hn => (hb.block k hk).trans (h.t.block k hk hn)⟩⟩
theorem kt_at {pre : List Trd} {x : Trd} (h : pre ++ [x] <+: FillsA kb ks) : x.1.1 = 0 ∧ x.2.1.1 = (pre.length : Int) ∧ x.2.2 = 1 ∧ pre.length < 2 := by
  rw [fills_known] at h
  unfold kt at h
  match pre, h with
  | [], h =>
    simp only [List.nil_append, List.cons_prefix_cons] at h
    obtain ⟨rfl, _⟩ := h
    exact ⟨rfl, rfl, rfl, by decide⟩
  | [y], h =>
    simp only [List.cons_append, List.nil_append, List.cons_prefix_cons] at h
    obtain ⟨rfl, rfl, _⟩ := h
    exact ⟨rfl, rfl, rfl, by decide⟩
  | y :: z :: pre, h =>
    have := h.length_le
    simp at this
theorem known_end {fn : Func} {tmps : Array Value} {w W : World} {D : Nat} (hD : w.heap.size + 1 ≤ D) (hK : W.heap[D]? = some (.deferred (some []))) (hB : Below w.heap.size w W) (hb : W.heap[w.heap.size]? = some (.cells #[.bool true] 4 (0, 0)))
    (hr : ∀ W', W'.cell? ⟨w.heap.size, 0, none⟩ = some (.bool true) → (results fn tmps).run Try.prog W' = .ok (.bool true) W') : LeavesInM Fence.wide 9 Try.prog fn tmps (ValPost (.bool true) w) [{ target := .collected D, args := #[] }] .returning W :=
  ⟨by simp, .inl ⟨D, _, rfl, run_takeDeferred hK, ⟨_, hr _ (cell_of_row _ _ 0 _ _ (0, 0) ((World.putObj_heap_other (by omega)).trans hb)), rfl, hB.grown (grownBy_putObj' W D _) hB.size (fun k e => by injection e with e; omega)⟩⟩⟩

/-- What lies at the last. -/
structure KnE (w : World) (q g1 g2 n D : Nat) (W : World) : Prop where
  k : KnC w q g1 g2 W
  n : W.heap[n]? = some (.cells #[.int .i64 2] 3 (0, 0))
  d : W.heap[D]? = some (.deferred (some []))
section
variable {w W W' : World} {q g1 g2 n D : Nat}
theorem KnE.below (h : KnE w q g1 g2 n D W) (hb : Below W.heap.size W W') : KnE w q g1 g2 n D W' := ⟨h.k.below hb, (hb.block _ (lt_of_block h.n)).trans h.n, (hb.block _ (lt_of_block h.d)).trans h.d⟩
theorem KnE.alloc (h : KnE w q g1 g2 n D W) (o : Obj) : KnE w q g1 g2 n D (W.alloc o) := h.below ((Below.refl _ _).alloc (Nat.le_refl _) _)
theorem KnE.cells (h : KnE w q g1 g2 n D W) : W.cell? ⟨w.heap.size, 0, none⟩ = some (.bool false) ∧ W.frozen? ⟨w.heap.size, 0, none⟩ = false ∧ W.cell? ⟨n, 0, none⟩ = some (.int .i64 2) ∧ W.cell? ⟨q, 0, none⟩ = some (.int .i64 9) ∧ W.cell? ⟨q, 1, none⟩ = some (.int .i64 2) ∧ W.cell? ⟨q, 2, none⟩ = some (.int .i64 9) ∧ W.cell? ⟨q, 3, none⟩ = some (.int .i64 9) ∧
    W.cell? ⟨q, 4, none⟩ = some (.slice (some ⟨g1, 0, none⟩) 2 2) ∧ W.cell? ⟨q, 5, none⟩ = some (.slice (some ⟨g2, 0, none⟩) 2 2) :=
  ⟨cell_of_row _ _ 0 _ _ (0, 0) h.k.k.r, frozen_of_row _ _ 0 _ _ h.k.k.r, cell_of_row _ _ 0 _ _ (0, 0) h.n, cell_of_row _ _ 0 _ _ (0, 0) h.k.c, cell_of_row _ _ 1 _ _ (0, 0) h.k.c, cell_of_row _ _ 2 _ _ (0, 0) h.k.c, cell_of_row _ _ 3 _ _ (0, 0) h.k.c, cell_of_row _ _ 4 _ _ (0, 0) h.k.c, cell_of_row _ _ 5 _ _ (0, 0) h.k.c⟩
end
theorem same_known {W : World} {g : Nat} {x y : Int} (h : W.heap[g]? = some (.cells (rowI [x, y]) 3 (0, 0))) : Calls Try.prog 25 #[.slice (some ⟨g, 0, none⟩) 2 2, .slice (some ⟨W.heap.size, 0, none⟩) 2 2] (W.alloc (.cells #[.int .i64 x, .int .i64 y] 3)) (ValPost (.bool true) (W.alloc (.cells #[.int .i64 x, .int .i64 y] 3))) :=
  sameInts_eq (some ⟨g, 0, none⟩) 2 (some ⟨W.heap.size, 0, none⟩) 2 [x, y] _ (ints_row (l := [x, y]) ((Below.heap_alloc _ _ _ (lt_of_block h)).trans h)) (ints_row (l := [x, y]) (heap_alloc_new W _)) (by simp)

set_option maxRecDepth 100000 in
set_option maxHeartbeats 8000000 in
theorem known_any (w : World) : Calls Try.prog 9 #[] w (ValPost (.bool true) w) := by
  have HK0 := hide (KnW.start w)
  refine (callsIn_wide (n := 9)).1 ?_
  refine callsIn_of_wp_marks Try.func9 rfl trivial ?_ rfl
  simp only [Try.ntmps9, List.size_toArray, List.length_cons, List.length_nil, Nat.reduceAdd, Nat.reduceSub, Array.replicate_succ, Array.replicate_zero, List.push_toArray, List.append_toArray, List.nil_append, List.cons_append]
  gi_wp2_with fail
  generalize (((w.alloc (.cells #[.bool false] 4)).alloc (.cells #[.int .i64 10, .int .i64 2, .int .i64 8, .int .i64 1] 51)).alloc (.cells #[.int .i64 5, .int .i64 1, .int .i64 9, .int .i64 3] 51)) = w1 at *
  refine ⟨trivial, (callsIn_wide.2 (known_clear HK0.out)).mono ?_⟩
  rintro e w2 ⟨g1, g2, rfl, hb2, h1, h2⟩
  simp only
  have hal : Below w2.heap.size w2 (w2.alloc (.cells #[.int .i64 9, .int .i64 2, .int .i64 9, .int .i64 9, .slice (some ⟨g1, 0, none⟩) 2 2, .slice (some ⟨g2, 0, none⟩) 2 2] 28)) := (Below.refl _ _).alloc (Nat.le_refl _) _
  have HC3 : Hid (KnC w w2.heap.size g1 g2 (w2.alloc (.cells #[.int .i64 9, .int .i64 2, .int .i64 9, .int .i64 9, .slice (some ⟨g1, 0, none⟩) 2 2, .slice (some ⟨g2, 0, none⟩) 2 2] 28))) := hide ⟨(HK0.out.below hb2).below hal, heap_alloc_new w2 _, (hal.block _ (lt_of_block h1)).trans h1, (hal.block _ (lt_of_block h2)).trans h2⟩
  clear hb2 h1 h2 hal
  gi_wp2_with fail
  obtain ⟨q, hq⟩ : ∃ q, q = w2.heap.size := ⟨_, rfl⟩
  generalize w2.alloc (.cells #[.int .i64 9, .int .i64 2, .int .i64 9, .int .i64 9, .slice (some ⟨g1, 0, none⟩) 2 2, .slice (some ⟨g2, 0, none⟩) 2 2] 28) = w3 at *
  rw [← hq] at HC3 ⊢
  clear hq HK0
  refine ⟨trivial, (callsIn_wide.2 (known_gains HC3.out.k)).mono ?_⟩
  rintro e w4 ⟨rfl, hb4⟩
  simp only
  have HC4 := hide (HC3.out.below hb4)
  clear hb4 HC3
  gi_wp2_with fail
  refine ⟨trivial, (callsIn_wide.2 (known_at HC4.out.k)).mono ?_⟩
  rintro e w5 ⟨rfl, hb5⟩
  simp only
  have HC5 := hide (HC4.out.below hb5)
  clear hb5 HC4
  gi_wp2_with fail
  refine ⟨trivial, (callsIn_wide.2 (known_fills HC5.out.k)).mono ?_⟩
  rintro e w6 ⟨rfl, hb6, A2, c2, A3, c3, hc2, hc3, ho2, ho3⟩
  simp only
  have HC6 := hide (HC5.out.below hb6)
  obtain ⟨f, hf⟩ : ∃ f, f = w5.heap.size := ⟨_, rfl⟩
  rw [← hf] at hc2 hc3 ho2 ho3 ⊢
  have HX2 := hide hc2
  have HX3 := hide hc3
  have HO2 := hide ho2
  have HO3 := hide ho3
  have hfe : ∀ (W : World), (binOp .eql 48 (.func (.func 37) #[] #[.pointer (some ⟨f, 0, none⟩), .pointer (some ⟨f + 1, 0, none⟩)]) .nilFunc).run Try.prog W = .ok (.bool false) W := fun _ => rfl
  clear hb6 HC5 hc2 hc3 ho2 ho3 hf
  gi_wp2_with fail
  have hal : Below w6.heap.size w6 (w6.alloc (.cells #[.int .i64 0] 3)) := (Below.refl _ _).alloc (Nat.le_refl _) _
  have HC7 := hide (HC6.out.below hal)
  have HN7 : Hid ((w6.alloc (.cells #[.int .i64 0] 3)).heap[w6.heap.size]? = some (.cells #[.int .i64 0] 3 (0, 0))) := hide (heap_alloc_new w6 _)
  have HS7 : Hid ((w6.alloc (.cells #[.int .i64 0] 3)).heap.size = w6.heap.size + 1) := hide (by simp)
  have HX27 := hide ((hal.block _ (lt_of_block HX2.out)).trans HX2.out)
  have HX37 := hide ((hal.block _ (lt_of_block HX3.out)).trans HX3.out)
  have HO27 := hide (own_below HO2.out hal (Nat.le_refl _))
  have HO37 := hide (own_below HO3.out hal (Nat.le_refl _))
  have HLT : Hid (f + 1 < w6.heap.size ∧ (q ≠ w6.heap.size ∧ g1 ≠ w6.heap.size ∧ g2 ≠ w6.heap.size ∧ w.heap.size + 2 < w6.heap.size) ∧ (∀ x, A2 = some x → x.block < w6.heap.size) ∧ (∀ x, A3 = some x → x.block < w6.heap.size)) := hide (by
    have h1 := lt_of_block HC6.out.c
    have h2 := lt_of_block HC6.out.g1
    have h3 := lt_of_block HC6.out.g2
    have h4 := lt_of_block HC6.out.k.s
    have h5 := lt_of_block HX3.out
    exact ⟨h5, by omega, fun x hx => (own_blk HO2.out x hx).2, fun x hx => (own_blk HO3.out x hx).2⟩)
  obtain ⟨n, hn⟩ : ∃ n, n = w6.heap.size := ⟨_, rfl⟩
  generalize w6.alloc (.cells #[.int .i64 0] 3) = w7 at *
  rw [← hn] at HN7 HS7 HLT ⊢
  clear hal HC6 HX2 HX3 HO2 HO3 hn hfe
  refine wpIn_rangeSeqL (α := Trd) (encs := encF) (E := fun pre x _ => pre ++ [x] <+: FillsA kb ks) (S := fun xs => xs = FillsA kb ks) (Sp := fun pre => pre <+: FillsA kb ks) (gf := 37) (lb := #[.pointer (some ⟨f, 0, none⟩), .pointer (some ⟨f + 1, 0, none⟩)]) rfl (enters_of Try.func37 (by kernel_rfl) rfl) (fun i => i = n) (fun _ _ => False)
    (fun h => by have := HS7.out; omega) (fun h => by have := HS7.out; omega) (fun _ _ _ _ _ h => h.elim)
    (fun W hb hz => fills_seq (fun k => k = n ∨ k = w7.heap.size + 1) A2 c2 kb A3 c3 ks f (f + 1) W
      ((hb.cell (World.block_lt_of_cell? _ _ (cell_of_row _ _ 0 _ _ (0, 0) HX27.out))).trans (cell_of_row _ _ 0 _ _ (0, 0) HX27.out)) ((hb.cell (World.block_lt_of_cell? _ _ (cell_of_row _ _ 0 _ _ (0, 0) HX37.out))).trans (cell_of_row _ _ 0 _ _ (0, 0) HX37.out))
      (((Reads.of_own HO27.out).below hb).more hb.size) (((Reads.of_own HO37.out).below hb).more hb.size) (fun i hi => by have := HS7.out; rcases hi with hi | hi <;> omega)
      (fun _ x hx h => by have h1 := HLT.out.2.2.1 x hx; have := HS7.out; rcases h with h | h <;> omega) (fun _ x hx h => by have h1 := HLT.out.2.2.2 x hx; have := HS7.out; rcases h with h | h <;> omega))
    (fun _ => rfl) (KnI n w7) (fun _ _ _ => False) (KnI.low (by have := HS7.out; omega)) (fun _ _ _ _ h _ => h.elim) ⟨HN7.out, Turns.refl _ _⟩
    ?a1 (fun x W => W.alloc (.cells #[.int .i64 x.1.1, .int .i64 x.2.1.1, .int .i64 x.2.2] 55)) (fun x W => (Below.refl _ _).alloc (Nat.le_refl _) _) 7 ?assign ?body ?done ?stop
  case assign =>
    rintro l' pre x W K he hK
    clear he
    simp only [encF]
    gi_wp2
    exact hK
  case body =>
    rintro l' pre ⟨⟨x0, x1⟩, ⟨y0, y1⟩, m⟩ W0 W ⟨hc, ht⟩ hE hsz hsz2 hsame
    obtain ⟨e1, e2, e3, hlt⟩ := kt_at hE
    simp only at e1 e2 e3 hsz2 hsame
    subst e1 e2 e3
    have hfill : W.heap[W0.heap.size]? = some (.cells #[.int .i64 0, .int .i64 (pre.length : Int), .int .i64 1] 55 (0, 0)) := (hsame _ (by omega)).trans (heap_alloc_new W0 _)
    have u4 := cell_of_row _ _ 0 _ _ (0, 0) hfill
    have u5 := cell_of_row _ _ 1 _ _ (0, 0) hfill
    have u6 := cell_of_row _ _ 2 _ _ (0, 0) hfill
    have u7 := cell_of_row _ _ 0 _ _ (0, 0) hc
    have u8 := frozen_of_row _ _ 0 _ _ hc
    simp only [List.getElem?_toArray, List.getElem?_cons_zero, List.getElem?_cons_succ] at u4 u5 u6 u7
    have HT := hide ht
    have HCQ := hide hc
    have hwn : IntKind.i64.wrap ((pre.length : Int) + 1) = (pre.length : Int) + 1 := Go.IntWalk.i64_in _ (by omega)
    have hpl : ((pre ++ [(((0 : Int), x1), ((pre.length : Int), y1), (1 : Int))]).length : Int) = (pre.length : Int) + 1 := by simp
    have HPL := hide hpl
    clear hc ht hE hsz hsz2 hsame hfill hpl
    gi_wp2_with fail
    refine ⟨⟨by simp, fun j hj hn' => Below.heap_setCell W _ _ j (fun e => hn' (.inl e))⟩, ?_, HT.out.trans (Turns.of_set W ⟨n, 0, none⟩ _)⟩
    rw [HPL.out]
    exact setCell_block HCQ.out 0 _
  case done =>
    rintro D xs W hD hS ⟨hc, ht⟩ hK
    rw [fills_known] at hS
    subst hS
    have HC := hide hc
    have HT := hide ht
    have HK := hide hK
    have HCW := hide (HC7.out.turns (by have := HS7.out; omega) HLT.out.2.1 ht)
    have HE0 : Hid (KnE w q g1 g2 n D W) := hide ⟨HCW.out, hc, hK⟩
    have HDW : Hid (w.heap.size + 1 ≤ D) := hide (by have := HLT.out.2.1; have := HS7.out; omega)
    clear hc ht hK HC HT HK HCW HX27 HX37 HO27 HO37 HN7 HC7 hD
    obtain ⟨d0, d1, d2, d3, d4, d5, d6, d7, d8⟩ := HE0.out.cells
    gi_wp2_with fail
    refine ⟨trivial, (callsIn_wide.2 (num_any 0 _)).mono ?_⟩
    rintro e v1 ⟨rfl, hb1⟩
    simp only
    have HE1 := hide (HE0.out.below hb1)
    clear hb1 d0 d1 d2 d3 d4 d5 d6 d7 d8
    obtain ⟨d0, d1, d2, d3, d4, d5, d6, d7, d8⟩ := HE1.out.cells
    have HM2 := hide (same_known HE1.out.k.g1)
    have HE2a := hide (HE1.out.alloc (.cells #[.int .i64 2, .int .i64 0] 3))
    gi_wp2_with fail
    refine ⟨trivial, (callsIn_wide.2 HM2.out).mono ?_⟩
    rintro e v2 ⟨rfl, hb2⟩
    simp only
    have HE2 := hide (HE2a.out.below hb2)
    clear hb2 d0 d1 d2 d3 d4 d5 d6 d7 d8
    obtain ⟨d0, d1, d2, d3, d4, d5, d6, d7, d8⟩ := HE2.out.cells
    have HM3 := hide (same_known HE2.out.k.g2)
    have HE3a := hide (HE2.out.alloc (.cells #[.int .i64 1, .int .i64 1] 3))
    gi_wp2_with fail
    refine ⟨trivial, (callsIn_wide.2 HM3.out).mono ?_⟩
    rintro e v3 ⟨rfl, hb3⟩
    simp only
    have HE3 := hide (HE3a.out.below hb3)
    clear hb3 d0 d1 d2 d3 d4 d5 d6 d7 d8
    obtain ⟨d0, d1, d2, d3, d4, d5, d6, d7, d8⟩ := HE3.out.cells
    gi_wp2_with fail
    refine ⟨trivial, (callsIn_wide.2 (num_any 0 _)).mono ?_⟩
    rintro e v4 ⟨rfl, hb4⟩
    simp only
    have HE4 := hide (HE3.out.below hb4)
    clear hb4 d0 d1 d2 d3 d4 d5 d6 d7 d8
    obtain ⟨d0, d1, d2, d3, d4, d5, d6, d7, d8⟩ := HE4.out.cells
    gi_wp2_with fail
    refine ⟨trivial, (callsIn_wide.2 (num_any 0 _)).mono ?_⟩
    rintro e v5 ⟨rfl, hb5⟩
    simp only
    have HE5 := hide (HE4.out.below hb5)
    clear hb5 d0 d1 d2 d3 d4 d5 d6 d7 d8
    obtain ⟨d0, d1, d2, d3, d4, d5, d6, d7, d8⟩ := HE5.out.cells
    gi_wp2_with fail
    refine known_end HDW.out ?_ (HE5.out.k.k.bel.setCell (Nat.le_refl _) _) (setCell_block HE5.out.k.k.r 0 _) (fun W' h => by simp [results, Try.results9, go_sem, h])
    exact (Below.heap_setCell _ _ _ _ (by have := HDW.out; show D ≠ w.heap.size; omega)).trans HE5.out.d
  case stop =>
    rintro D c' pre W hD hpre h hK
    exact h.elim
end Go.Proofs.Ytogicdljbnllgaa
