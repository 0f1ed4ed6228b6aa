/- The walk of gavellaw08.goes: a going over tells what a list is worth for each set. -/
import Derived.Test.YtkiebjgpghajbaaDoorWorthsS

namespace Go.Proofs.YtkiebjgpghajbaaDoor
open Go.RowKit Go.Shelf

attribute [local go_sem] Oper.semAt_some

theorem own_blk {β : Type} {B k : Nat} {o : Obj} (hk : k < B) : OwnFrom B (fun (_ : β) W => W.heap[k]? = some o) := fun _ A C row hs hg hr => (hg.block k (lt_of_block hs) (fun e => by have := (hr k e.symm).1; omega)).trans hs
theorem five (w : World) (o0 o1 o2 o3 o4 : Obj) :
    (((((w.alloc o0).alloc o1).alloc o2).alloc o3).alloc o4).heap[w.heap.size + 1]? = some o1 ∧ (((((w.alloc o0).alloc o1).alloc o2).alloc o3).alloc o4).heap[w.heap.size + 1 + 1]? = some o2 ∧
    (((((w.alloc o0).alloc o1).alloc o2).alloc o3).alloc o4).heap[w.heap.size + 1 + 1 + 1]? = some o3 ∧ (((((w.alloc o0).alloc o1).alloc o2).alloc o3).alloc o4).heap[w.heap.size + 4]? = some o4 ∧
    (((((w.alloc o0).alloc o1).alloc o2).alloc o3).alloc o4).heap.size = w.heap.size + 5 := by
  refine ⟨?_, ?_, ?_, ?_, by simp⟩
  · rw [Below.heap_alloc _ _ _ (by simp <;> omega), Below.heap_alloc _ _ _ (by simp <;> omega), Below.heap_alloc _ _ _ (by simp)]
    have := heap_alloc_new (w.alloc o0) o1
    simpa using this
  · rw [Below.heap_alloc _ _ _ (by simp <;> omega), Below.heap_alloc _ _ _ (by simp)]
    have := heap_alloc_new ((w.alloc o0).alloc o1) o2
    simpa using this
  · rw [Below.heap_alloc _ _ _ (by simp)]
    have := heap_alloc_new (((w.alloc o0).alloc o1).alloc o2) o3
    simpa using this
  · have := heap_alloc_new ((((w.alloc o0).alloc o1).alloc o2).alloc o3) o4
    simpa using this

/-- What the going over's own variables hold. -/
structure GI (w : World) (n : Int) (A : Option Addr) (m c : Nat) (q : Int) (k : Int) (W : World) : Prop where
  bel : Below w.heap.size w W
  b0 : W.heap[w.heap.size]? = some (.cells #[.int .i64 n] 3 (0, 0))
  b1 : W.heap[w.heap.size + 1]? = some (.cells #[.slice A m c] 22 (0, 0))
  b2 : W.heap[w.heap.size + 1 + 1]? = some (.cells #[.int .i64 q] 3 (0, 0))
  b3 : W.heap[w.heap.size + 1 + 1 + 1]? = some (.cells #[.bool false] 4 (0, 0))
  b4 : W.heap[w.heap.size + 1 + 1 + 1 + 1]? = some (.cells #[.int .i64 k] 3 (0, 0))
theorem GI.below {w W W' : World} {n : Int} {A : Option Addr} {m c : Nat} {q k : Int} (h : GI w n A m c q k W) (hb : Below W.heap.size W W') : GI w n A m c q k W' :=
  ⟨h.bel.trans (hb.mono h.bel.size), (hb.block _ (lt_of_block h.b0)).trans h.b0, (hb.block _ (lt_of_block h.b1)).trans h.b1, (hb.block _ (lt_of_block h.b2)).trans h.b2, (hb.block _ (lt_of_block h.b3)).trans h.b3, (hb.block _ (lt_of_block h.b4)).trans h.b4⟩
theorem GI.own {w W W' : World} {B : Nat} {n : Int} {A : Option Addr} {m c : Nat} {q k : Int} {row : Option Nat} (h : GI w n A m c q k W) (hB : w.heap.size + 5 ≤ B) (hg : W.grownBy W' row) (hr : ∀ r, row = some r → B ≤ r) : GI w n A m c q k W' := by
  have key : ∀ {j : Nat} {o : Obj}, j < w.heap.size + 5 → W.heap[j]? = some o → W'.heap[j]? = some o := fun hj ho => (hg.block _ (lt_of_block ho) (fun e => by have := hr _ e.symm; omega)).trans ho
  exact ⟨h.bel.grown hg h.bel.size (fun k e => by have := hr k e; omega), key (by omega) h.b0, key (by omega) h.b1, key (by omega) h.b2, key (by omega) h.b3, key (by omega) h.b4⟩
theorem GI.cells {w W : World} {n : Int} {A : Option Addr} {m c : Nat} {q k : Int} (h : GI w n A m c q k W) : W.cell? ⟨w.heap.size, 0, none⟩ = some (.int .i64 n) ∧ W.cell? ⟨w.heap.size + 1, 0, none⟩ = some (.slice A m c) ∧ W.cell? ⟨w.heap.size + 1 + 1, 0, none⟩ = some (.int .i64 q) ∧
    W.cell? ⟨w.heap.size + 1 + 1 + 1, 0, none⟩ = some (.bool false) ∧ W.cell? ⟨w.heap.size + 1 + 1 + 1 + 1, 0, none⟩ = some (.int .i64 k) ∧ W.frozen? ⟨w.heap.size + 1 + 1 + 1, 0, none⟩ = false ∧ W.frozen? ⟨w.heap.size + 1 + 1 + 1 + 1, 0, none⟩ = false :=
  ⟨cell_of_row W _ 0 _ _ (0, 0) h.b0, cell_of_row W _ 0 _ _ (0, 0) h.b1, cell_of_row W _ 0 _ _ (0, 0) h.b2, cell_of_row W _ 0 _ _ (0, 0) h.b3, cell_of_row W _ 0 _ _ (0, 0) h.b4, frozen_of_row W _ 0 _ _ h.b3, frozen_of_row W _ 0 _ _ h.b4⟩
theorem GI.next {w W : World} {n : Int} {A : Option Addr} {m c : Nat} {q k : Int} (h : GI w n A m c q k W) (k' : Int) : GI w n A m c q k' (W.setCell ⟨w.heap.size + 1 + 1 + 1 + 1, 0, none⟩ (.int .i64 k')) := by
  have key : ∀ {j : Nat} {o : Obj}, j ≠ w.heap.size + 1 + 1 + 1 + 1 → W.heap[j]? = some o → (W.setCell ⟨w.heap.size + 1 + 1 + 1 + 1, 0, none⟩ (.int .i64 k')).heap[j]? = some o := fun hj ho => (Below.heap_setCell W _ _ _ hj).trans ho
  exact ⟨h.bel.setCell (by show w.heap.size ≤ w.heap.size + 1 + 1 + 1 + 1; omega) _, key (by omega) h.b0, key (by omega) h.b1, key (by omega) h.b2, key (by omega) h.b3, setCell_block h.b4 0 _⟩

set_option maxRecDepth 100000 in
theorem func_nil (fn : Fn) (f c : Array Value) (w : World) : (binOp BinOp.eql 27 (.func fn f c) .nilFunc).run Tryd.prog w = .ok (.bool false) w := rfl

theorem goes_end {fn : Func} {tmps : Array Value} {w W : World} {D : Nat} (hD : w.heap.size + 4 ≤ D) (hK : W.heap[D]? = some (.deferred (some []))) (hB : Below w.heap.size w W) (hb : W.heap[w.heap.size + 1 + 1 + 1]? = some (.cells #[.bool true] 4 (0, 0)))
    (hr : ∀ W', W'.cell? ⟨w.heap.size + 1 + 1 + 1, 0, none⟩ = some (.bool true) → (results fn tmps).run Tryd.prog W' = .ok (.bool true) W') : LeavesInM Fence.wide 9 Tryd.prog fn tmps (ValPost (.bool true) w) [{ target := .collected D, args := #[] }] .returning W := by
  have hb2 : (W.putObj D (.deferred none)).heap[w.heap.size + 1 + 1 + 1]? = some (.cells #[.bool true] 4 (0, 0)) := (World.putObj_heap_other (by omega)).trans hb
  exact ⟨by simp, .inl ⟨D, _, rfl, run_takeDeferred hK, ⟨.bool true, hr _ (cell_of_row _ _ 0 _ _ (0, 0) hb2), rfl, hB.grown (grownBy_putObj' W D _) hB.size (fun k e => by injection e with e; omega)⟩⟩⟩

set_option maxRecDepth 100000 in
set_option maxHeartbeats 8000000 in
theorem goes_good {n : Nat} (h1 : 1 ≤ n) (h10 : n ≤ 10) (l : List Offer) (hl : l.length ≤ 1000000) (hwl : OWide l) (A1 : Option Addr) (c1 b1 b2 : Nat) (A : Option Addr) (c : Nat) (q : Int) (w : World) (hb1 : w.heap[b1]? = some (.cells #[.int .i64 (n : Int)] 3 (0, 0))) (hb2 : w.heap[b2]? = some (.cells #[.slice A1 l.length c1] 22 (0, 0)))
    (ho : Offs w w.heap.size A1 l) (hA1 : ∀ g o, A1 = some ⟨g, o, none⟩ → g < w.heap.size) (hl2 : Offs w w.heap.size A l) :
    Calls Tryd.prog 15 #[.func (.func 45) #[] #[.pointer (some ⟨b1, 0, none⟩), .pointer (some ⟨b2, 0, none⟩)], .int .i64 (n : Int), .slice A l.length c, .int .i64 q] w (ValPost (.bool true) w) := by
  have hfn := func_nil (.func 45) #[] #[.pointer (some ⟨b1, 0, none⟩), .pointer (some ⟨b2, 0, none⟩)]
  have hn1 : ¬ ((n : Int) < 1) := by omega
  have hn2 : ¬ ((10 : Int) < (n : Int)) := by omega
  have hn3 : decide ((n : Int) < 1) = false := by simp; omega
  have hn4 : decide ((10 : Int) < (n : Int)) = false := by simp; omega
  refine (callsIn_wide (n := 9)).1 ?_
  refine callsIn_of_wp_marks Tryd.func15 rfl trivial ?_ rfl
  simp only [Tryd.ntmps15, List.size_toArray, List.length_cons, List.length_nil, Nat.reduceAdd, Nat.reduceSub, Array.replicate_succ, Array.replicate_zero, List.push_toArray, List.append_toArray, List.nil_append, List.cons_append]
  gi_wp2_with fail
  have hv := five w (.cells #[.int .i64 (n : Int)] 3) (.cells #[.slice A l.length c] 22) (.cells #[.int .i64 q] 3) (.cells #[.bool false] 4) (.cells #[.int .i64 0] 3)
  have hz5 : (((((w.alloc (.cells #[.int .i64 (n : Int)] 3)).alloc (.cells #[.slice A l.length c] 22)).alloc (.cells #[.int .i64 q] 3)).alloc (.cells #[.bool false] 4)).alloc (.cells #[.int .i64 0] 3)).heap.size = w.heap.size + 5 := by simp
  have hB5 : Below w.heap.size w (((((w.alloc (.cells #[.int .i64 (n : Int)] 3)).alloc (.cells #[.slice A l.length c] 22)).alloc (.cells #[.int .i64 q] 3)).alloc (.cells #[.bool false] 4)).alloc (.cells #[.int .i64 0] 3)) := (((((Below.refl _ _).alloc (Nat.le_refl _) _).alloc (by simp) _).alloc (by simp; omega) _).alloc (by simp; omega) _).alloc (by simp; omega) _
  have hv0 : (((((w.alloc (.cells #[.int .i64 (n : Int)] 3)).alloc (.cells #[.slice A l.length c] 22)).alloc (.cells #[.int .i64 q] 3)).alloc (.cells #[.bool false] 4)).alloc (.cells #[.int .i64 0] 3)).heap[w.heap.size]? = some (.cells #[.int .i64 (n : Int)] 3 (0, 0)) := by
    rw [Below.heap_alloc _ _ _ (by simp; omega), Below.heap_alloc _ _ _ (by simp; omega), Below.heap_alloc _ _ _ (by simp; omega), Below.heap_alloc _ _ _ (by simp)]
    exact heap_alloc_new w _
  have HG : Hid (GI w n A l.length c q 0 (((((w.alloc (.cells #[.int .i64 (n : Int)] 3)).alloc (.cells #[.slice A l.length c] 22)).alloc (.cells #[.int .i64 q] 3)).alloc (.cells #[.bool false] 4)).alloc (.cells #[.int .i64 0] 3))) := hide ⟨hB5, hv0, hv.1, hv.2.1, hv.2.2.1, hv.2.2.2.1⟩
  have HB5 := hide hB5
  have HO := hide ho
  have HL2 := hide hl2
  have HB1 := hide hb1
  have HB2 := hide hb2
  clear hv hv0 hB5 ho hl2 hb1 hb2 hn3 hn4 hn1 hn2 hfn
  generalize ((((w.alloc (.cells #[.int .i64 (n : Int)] 3)).alloc (.cells #[.slice A l.length c] 22)).alloc (.cells #[.int .i64 q] 3)).alloc (.cells #[.bool false] 4)).alloc (.cells #[.int .i64 0] 3) = w5 at *
  have HT : Hid (2 ^ n ≤ 1024) := hide (Nat.le_trans (Nat.pow_le_pow_right (n := 2) (by omega) h10) (Nat.le_of_eq rfl))
  refine wpIn_rangeSeq (α := Nat) (encs := encW l) (gf := 45) (lb := #[.pointer (some ⟨b1, 0, none⟩), .pointer (some ⟨b2, 0, none⟩)]) rfl (enters_of Tryd.func45 (by kernel_rfl) rfl) (fun k => w.heap.size ≤ k ∧ k < w.heap.size + 5) (fun h => by omega) (fun h => by omega)
    (fun W2 hb hz => worths_good h1 h10 hl hwl (b1 := b1) (b2 := b2) (A1 := A1) (c1 := c1) ((hb.block _ (by have := lt_of_block HB1.out; omega)).trans ((HB5.out.block _ (lt_of_block HB1.out)).trans HB1.out)) ((hb.block _ (by have := lt_of_block HB2.out; omega)).trans ((HB5.out.block _ (lt_of_block HB2.out)).trans HB2.out)) (HO.out.up (HB5.out.trans (hb.mono (by omega))))
      (by have := lt_of_block HB1.out; omega) (by have := lt_of_block HB2.out; omega) (fun g o e => by have := hA1 g o e; omega) (fun k hk => by omega)) (fun _ => rfl)
    (fun pre W' => GI w n A l.length c q pre.length W') (fun c' pre W' => c' = .ret ∧ Below w.heap.size w W' ∧ W'.heap[w.heap.size + 1 + 1 + 1]? = some (.cells #[.bool true] 4 (0, 0)))
    (fun s X Y row hs hg hr => hs.own (B := w5.heap.size) (by omega) hg (fun r e => (hr r e).1)) (fun c' s X Y row hs hg hr => ⟨hs.1, hs.2.1.grown hg hs.2.1.size (fun r e => by have := (hr r e).1; omega), (hg.block _ (lt_of_block hs.2.2) (fun e => by have := (hr _ e.symm).1; omega)).trans hs.2.2⟩) HG.out
    (fun x => { tmps := #[.func (.func 45) #[] #[.pointer (some ⟨b1, 0, none⟩), .pointer (some ⟨b2, 0, none⟩)], .int .i64 (n : Int), .slice A l.length c, .int .i64 q, undef, .pointer (some ⟨w.heap.size, 0, none⟩), .pointer (some ⟨w.heap.size + 1, 0, none⟩), .pointer (some ⟨w.heap.size + 1 + 1, 0, none⟩), .pointer (some ⟨w.heap.size + 1 + 1 + 1, 0, none⟩), .pointer (some ⟨w.heap.size + 1 + 1 + 1 + 1, 0, none⟩), .int .u32 (x : Int), .int .i64 (worthL x l).1, undef, undef, .func (.func 45) #[] #[.pointer (some ⟨b1, 0, none⟩), .pointer (some ⟨b2, 0, none⟩)], .bool false, .int .i64 (n : Int), .bool false, .bool false, .int .i64 (n : Int), .bool false, .bool false, undef, undef, undef, .func (.func 45) #[] #[.pointer (some ⟨b1, 0, none⟩), .pointer (some ⟨b2, 0, none⟩)], .int .u32 (x : Int), .int .i64 (worthL x l).1, undef, undef, undef, undef, undef, undef, undef, undef, undef, undef, undef, undef, undef, undef, undef, undef, undef, undef, undef, undef, undef, undef, undef, undef, undef, undef, undef, undef, undef, undef, undef], defers := [] }) 7 ?assign ?body ?done ?stop
  case assign =>
    intro l' pre x W' K he hK
    clear he
    simp only [encW]
    gi_wp2
    exact hK
  case body =>
    rintro l' pre x Wr hgi ⟨hx, hxn⟩ hsz
    obtain ⟨k, hk⟩ : ∃ k, k = pre.length := ⟨_, rfl⟩
    rw [← hk] at hx hgi
    subst hx
    have HGI := hide hgi
    obtain ⟨d0, d1, d2, d3, d4, f3, f4⟩ := hgi.cells
    have HPL := hide hk
    have hcv : IntKind.u32.wrap (x : Int) = (x : Int) := by simp only [IntKind.wrap_u32]; have := HT.out; omega
    have HW := hide (refworth8_any A c l x (by have := HT.out; omega) Wr (HL2.out.up hgi.bel) hl hwl)
    clear hgi hk
    generalize (worthL x l).1 = wv at *
    gi_wp2_with fail
    refine ⟨trivial, (callsIn_in HW.out).mono ?_⟩
    rintro e W4 ⟨rfl, hb4⟩
    have HG4 := hide (HGI.out.below hb4)
    have HO4 : Hid (OutP (fun k => w.heap.size ≤ k ∧ k < w.heap.size + 5) Wr W4) := hide (OutP.of_below hb4)
    clear hb4 d0 d1 d2 d3 d4 f3 f4 HW
    obtain ⟨d0, d1, d2, d3, d4, f3, f4⟩ := HG4.out.cells
    obtain ⟨T, hT⟩ : ∃ T : Nat, T = 2 ^ n := ⟨_, rfl⟩
    have hpw : ((2 : Int) ^ n) = (T : Int) := by rw [hT]; simp
    have hT2 : T ≤ 1024 := by rw [hT]; exact HT.out
    have hxT : (x : Int) < (T : Int) := by omega
    have hxn2 : ¬ ((T : Int) ≤ (x : Int)) := by omega
    have hwT : IntKind.i64.wrap (T : Int) = (T : Int) := Go.IntWalk.i64_in _ (by omega)
    have hwx : IntKind.i64.wrap (x : Int) = (x : Int) := Go.IntWalk.i64_in _ (by omega)
    have hwx1 : IntKind.i64.wrap ((x : Int) + 1) = (x : Int) + 1 := Go.IntWalk.i64_in _ (by omega)
    have hmx : Tryd.prog.follows .mixedOrders = true := by kernel_rfl
    have hNT : ¬ T ≤ x := by omega
    have hND : decide (T ≤ x) = false := by simpa using hNT
    have HTT := hide hT
    clear hxn hT
    have hgn := (HG4.out.below ((Below.refl _ _).drew)).next ((x : Int) + 1)
    have HGN := hide hgn
    obtain ⟨_, _, e2, e3, e4, g3, _⟩ := hgn.cells
    have HON : Hid (OutP (fun k => w.heap.size ≤ k ∧ k < w.heap.size + 5) Wr (W4.drew.setCell ⟨w.heap.size + 1 + 1 + 1 + 1, 0, none⟩ (.int .i64 ((x : Int) + 1)))) := hide ((HO4.out.drewN 1).set ⟨w.heap.size + 1 + 1 + 1 + 1, 0, none⟩ ⟨by show w.heap.size ≤ w.heap.size + 1 + 1 + 1 + 1; omega, by show w.heap.size + 1 + 1 + 1 + 1 < w.heap.size + 5; omega⟩ _)
    have HBT : Hid ((((W4.drew.setCell ⟨w.heap.size + 1 + 1 + 1 + 1, 0, none⟩ (.int .i64 ((x : Int) + 1))).setCell ⟨w.heap.size + 1 + 1 + 1, 0, none⟩ (.bool true)).heap[w.heap.size + 1 + 1 + 1]? = some (.cells #[.bool true] 4 (0, 0)))) := hide (setCell_block HGN.out.b3 0 _)
    clear hgn
    have hse : ((x : Int) + 1 == q) = decide ((x : Int) + 1 = q) := rfl
    by_cases hxq : (x : Int) + 1 = q
    · clear hse
      subst hxq
      have hq1 : ((x : Int) + 1 == (x : Int) + 1) = true := by simp
      gi_wp2_with fail
      gi_region_with_o (fail)
      all_goals (
        gi_wp2
        exact ⟨HON.out.set ⟨w.heap.size + 1 + 1 + 1, 0, none⟩ ⟨by show w.heap.size ≤ w.heap.size + 1 + 1 + 1; omega, by show w.heap.size + 1 + 1 + 1 < w.heap.size + 5; omega⟩ _, rfl, HGN.out.bel.setCell (by show w.heap.size ≤ w.heap.size + 1 + 1 + 1; omega) _, HBT.out⟩)
    · have hq1 : ((x : Int) + 1 == q) = false := by simpa using hxq
      clear hse
      gi_wp2_with fail
      gi_region_with_o (fail)
      all_goals (
        gi_wp2
        refine ⟨HON.out, ?_⟩
        show GI w (n : Int) A l.length c q ((pre ++ [x]).length : Nat) _
        rw [List.length_append, List.length_singleton, ← HPL.out]
        exact HGN.out)
  case done =>
    rintro D xs W' hD rfl hgi hK
    rw [List.length_range] at hgi
    have HGI := hide hgi
    obtain ⟨d0, d1, d2, d3, d4, f3, f4⟩ := hgi.cells
    have HK := hide hK
    obtain ⟨T, hT⟩ : ∃ T : Nat, T = 2 ^ n := ⟨_, rfl⟩
    have hpw : ((2 : Int) ^ n) = (T : Int) := by rw [hT]; simp
    have hT2 : T ≤ 1024 := by rw [hT]; exact HT.out
    have hwT : IntKind.i64.wrap (T : Int) = (T : Int) := Go.IntWalk.i64_in _ (by omega)
    rw [← hT] at d4
    have hmx : Tryd.prog.follows .mixedOrders = true := by kernel_rfl
    have HBT : Hid ((W'.drew.setCell ⟨w.heap.size + 1 + 1 + 1, 0, none⟩ (.bool true)).heap[w.heap.size + 1 + 1 + 1]? = some (.cells #[.bool true] 4 (0, 0))) := hide (setCell_block hgi.b3 0 _)
    have HKF : Hid ((W'.drew.setCell ⟨w.heap.size + 1 + 1 + 1, 0, none⟩ (.bool true)).heap[D]? = some (.deferred (some []))) := hide ((Below.heap_setCell _ _ _ _ (by show D ≠ w.heap.size + 1 + 1 + 1; omega)).trans hK)
    have HBF : Hid (Below w.heap.size w (W'.drew.setCell ⟨w.heap.size + 1 + 1 + 1, 0, none⟩ (.bool true))) := hide (hgi.bel.drew.setCell (by show w.heap.size ≤ w.heap.size + 1 + 1 + 1; omega) _)
    clear hgi hK hT
    gi_wp2_with fail
    refine wpIn_mono (Q := NoPanic _) ?_ NoPanic.imp
    gi_region_with_o (fail)
    all_goals (
      refine NoPanic.normal ?_
      gi_wp2
      exact goes_end (by omega) HKF.out HBF.out HBT.out (fun W' h => by simp [results, Tryd.results15, go_sem, h]))
  case stop =>
    rintro D c' pre W' hD hpre ⟨rfl, hb, hbt⟩ hK
    have d3 := cell_of_row W' _ 0 _ _ (0, 0) hbt
    have HB := hide hb
    have HK := hide hK
    have HBT := hide hbt
    clear hb hbt hK hpre
    gi_wp2
    exact goes_end (by omega) HK.out HB.out HBT.out (fun W' h => by simp [results, Tryd.results15, go_sem, h])
end Go.Proofs.YtkiebjgpghajbaaDoor
