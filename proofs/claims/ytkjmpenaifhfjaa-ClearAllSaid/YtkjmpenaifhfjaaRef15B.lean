/- The walks of the reference of layer 15: Part with its refusal, Whole, Best. -/
import Derived.Test.YtkjmpenaifhfjaaRefPart
import Derived.Test.YtkjmpenaifhfjaaSame
import Derived.Deep.CutRange
namespace Go.Proofs.Ytkjmpenaifhfjaa
open Go.RowKit Go.Maps
open Go.ChangeMaps Go.WideMaps

set_option maxRecDepth 100000 in
set_option maxHeartbeats 4000000 in
theorem refpart_any (n : Int) (A : Option Addr) (c : Nat) (hs : List Hdr) (ls : List (List Offer)) (k : Int) (f : Nat) (w : World) (h : Buys w w.heap.size A hs ls) (hl : ls.length ≤ 1000000) (hls : BLens ls) (hw : BWide ls) (hf : f < 4294967296) :
    Calls Try.prog 13 #[instV n A ls.length c, .int .i64 k, .int .u32 (f : Int)] w (ClearPost (partI n ls k f) w) := by
  by_cases h1 : mayE n ls k f = 0
  · obtain ⟨hg, hk0, hkl, hft⟩ := mayE_good hw hf h1
    have HR : partI n ls k f = ((choiceK ls k.toNat f, bestW (ls.drop k.toNat) f), 0) := by unfold partI; rw [if_neg (by simpa using h1)]
    rw [HR]
    obtain ⟨q, rfl⟩ : ∃ q : Nat, k = q := ⟨k.toNat, by omega⟩
    obtain ⟨nn, rfl⟩ : ∃ nn : Nat, n = nn := ⟨n.toNat, by have := hg.lo; omega⟩
    exact refpart_good nn A c hs ls q f w h hl hls hw hg (by omega) (by simpa using hft) h1
  · have HB : Hid (Below w.heap.size w ((w.alloc (.cells #[.int .i64 n, .slice A ls.length c] 24)).alloc (.cells #[.slice none 0 0, .int .i64 0] 35))) := hide (((Below.refl _ _).alloc (Nat.le_refl _) _).alloc (by simp) _)
    have HI := hide (wrong_any n A c hs ls k f _ (h.up HB.out) hl hls hw hf)
    have HX : Hid (((w.alloc (.cells #[.int .i64 n, .slice A ls.length c] 24)).alloc (.cells #[.slice none 0 0, .int .i64 0] 35)).heap[w.heap.size + 1]? = some (.cells #[.slice none 0 0, .int .i64 0] 35 (0, 0))) := hide (by
      have := heap_alloc_new (w.alloc (.cells #[.int .i64 n, .slice A ls.length c] 24)) (.cells #[.slice none 0 0, .int .i64 0] 35)
      simpa using this)
    have HR : Hid (partI n ls k f = (([], 0), mayE n ls k f)) := hide (by unfold partI; rw [if_pos h1])
    have h1' : (mayE n ls k f != 0) = true := by simpa using h1
    generalize mayE n ls k f = z at *
    clear h1 h hw hls
    simp only [instV] at *
    go_enter Try.func13, Try.ntmps13
    go_wp2_with (first | (go_at_call 32; refine (HI.out).mono ?_; rintro e w1 ⟨rfl, hb1⟩; have hx1 : w1.heap[w.heap.size + 1]? = some (.cells #[.slice none 0 0, .int .i64 0] 35 (0, 0)) := (hb1.block _ (by simp)).trans HX.out; have y0 := cell_of_row w1 (w.heap.size + 1) 0 _ _ (0, 0) hx1; have y1 := cell_of_row w1 (w.heap.size + 1) 1 _ _ (0, 0) hx1; simp at y0 y1; have y2 : ∀ i, w1.frozen? ⟨w.heap.size + 1, i, none⟩ = false := (fun i => by simp [World.frozen?, hx1]); have HB1 : Hid (Below w.heap.size w w1) := hide (HB.out.trans (hb1.mono (by simp; omega))); clear hb1 hx1))
    refine bodyPost_ret (v := .tuple #[.agg #[.slice none 0 0, .int .i64 0], .int .i64 z]) (by simp [results, Try.results13, go_sem, y0, y1]) rfl ?_
    refine ⟨_, by rw [HR.out], ?_, ?_⟩
    · rw [HR.out]
      exact World.ownsRow_nil _ _ _ _
    · repeat (refine Below.setCell ?_ (by show w.heap.size ≤ w.heap.size + 1; omega) _)
      exact HB1.out

set_option maxRecDepth 100000 in
set_option maxHeartbeats 2000000 in
theorem refwhole_any (n : Int) (h1 : 1 ≤ n) (h2 : n ≤ 10) (A : Option Addr) (l c : Nat) (w : World) : Calls Try.prog 38 #[instV n A l c] w (ValPost (.int .u32 (allI n : Int)) w) := by
  have hn : n = 1 ∨ n = 2 ∨ n = 3 ∨ n = 4 ∨ n = 5 ∨ n = 6 ∨ n = 7 ∨ n = 8 ∨ n = 9 ∨ n = 10 := by omega
  clear h1 h2
  simp only [instV]
  rcases hn with rfl | rfl | rfl | rfl | rfl | rfl | rfl | rfl | rfl | rfl
  all_goals
    go_enter Try.func38, Try.ntmps38
    go_wp2_with fail
    go_ret
    exact ⟨rfl, (Below.refl _ _).alloc (Nat.le_refl _) _⟩

set_option maxRecDepth 100000 in
set_option maxHeartbeats 4000000 in
theorem refbest_any (n : Int) (A : Option Addr) (c : Nat) (hs : List Hdr) (ls : List (List Offer)) (w : World) (h : Buys w w.heap.size A hs ls) (hl : ls.length ≤ 1000000) (hls : BLens ls) (hw : BWide ls) :
    Calls Try.prog 19 #[instV n A ls.length c] w (ClearPost (bestI n ls) w) := by
  have HB : Hid (Below w.heap.size w ((w.alloc (.cells #[.int .i64 n, .slice A ls.length c] 24)).alloc (.cells #[.slice none 0 0, .int .i64 0] 35))) := hide (((Below.refl _ _).alloc (Nat.le_refl _) _).alloc (by simp) _)
  have HX : Hid (((w.alloc (.cells #[.int .i64 n, .slice A ls.length c] 24)).alloc (.cells #[.slice none 0 0, .int .i64 0] 35)).heap[w.heap.size]? = some (.cells #[.int .i64 n, .slice A ls.length c] 24 (0, 0)) ∧
      ((w.alloc (.cells #[.int .i64 n, .slice A ls.length c] 24)).alloc (.cells #[.slice none 0 0, .int .i64 0] 35)).heap[w.heap.size + 1]? = some (.cells #[.slice none 0 0, .int .i64 0] 35 (0, 0))) := hide ⟨by
    rw [Below.heap_alloc _ _ _ (by simp)]; exact heap_alloc_new w _, by
    have := heap_alloc_new (w.alloc (.cells #[.int .i64 n, .slice A ls.length c] 24)) (.cells #[.slice none 0 0, .int .i64 0] 35)
    simpa using this⟩
  have HI := hide (inst08_any n A c hs ls _ (h.up HB.out) hl hls hw)
  by_cases h1 : instE n ls = 0
  · have hg := instE_good hw h1
    have HP : Hid (∀ W, Below w.heap.size w W → Calls Try.prog 13 #[instV n A ls.length c, .int .i64 0, .int .u32 (allI n : Int)] W (ClearPost (bestI n ls) W)) := hide (fun W hb => refpart_any n A c hs ls 0 (allI n) W (h.up hb) hl hls hw (allI_lt n))
    have HWH := hide (fun W => refwhole_any n hg.lo hg.hi A ls.length c W)
    rw [h1] at HI
    generalize (allI n : Int) = al at *
    clear h hw hls hg h1
    generalize bestI n ls = r at *
    obtain ⟨⟨ch, bw⟩, er⟩ := r
    simp only [instV] at *
    go_enter Try.func19, Try.ntmps19
    go_wp2_with (go_at_call 37; refine (HI.out).mono ?_; rintro e w0 ⟨rfl, hb0⟩; have HX0 : Hid (w0.drew.heap[w.heap.size]? = some (.cells #[.int .i64 n, .slice A ls.length c] 24 (0, 0)) ∧ w0.drew.heap[w.heap.size + 1]? = some (.cells #[.slice none 0 0, .int .i64 0] 35 (0, 0))) := hide ⟨(hb0.block _ (by simp; omega)).trans HX.out.1, (hb0.block _ (by simp)).trans HX.out.2⟩; have HB0 : Hid (Below w.heap.size w w0.drew) := hide (HB.out.trans (hb0.mono (by simp; omega))).drew; have HZ0 : Hid (w.heap.size + 2 ≤ w0.drew.heap.size) := hide (by have := hb0.size; simpa using this); have p0 : w0.drew.cell? ⟨w.heap.size, 0, none⟩ = some (.int .i64 n) := cell_of_row w0.drew w.heap.size 0 _ _ (0, 0) HX0.out.1; have p1 : w0.drew.cell? ⟨w.heap.size, 1, none⟩ = some (.slice A ls.length c) := cell_of_row w0.drew w.heap.size 1 _ _ (0, 0) HX0.out.1; clear hb0)
    go_region_held3 (fun w' => w'.cell? ⟨w.heap.size, 0, none⟩ = some (.int .i64 n) ∧ w'.cell? ⟨w.heap.size, 1, none⟩ = some (.slice A ls.length c)) (first | exact ⟨p0, p1⟩ | exact ⟨r0, r1⟩ | exact ⟨s0, s1⟩ | exact u01 | go_keep)
      (first | (go_at_call 38; refine (HWH.out _).mono ?_; rintro e w1 ⟨rfl, hb1⟩; have HX1 : Hid (w1.heap[w.heap.size]? = some (.cells #[.int .i64 n, .slice A ls.length c] 24 (0, 0)) ∧ w1.heap[w.heap.size + 1]? = some (.cells #[.slice none 0 0, .int .i64 0] 35 (0, 0))) := hide ⟨(hb1.block _ (by have := HZ0.out; omega)).trans HX0.out.1, (hb1.block _ (by have := HZ0.out; omega)).trans HX0.out.2⟩; have r0 := cell_of_row w1 w.heap.size 0 _ _ (0, 0) HX1.out.1; have r1 := cell_of_row w1 w.heap.size 1 _ _ (0, 0) HX1.out.1; simp at r0 r1; have HB1 : Hid (Below w.heap.size w w1) := hide (HB0.out.trans (hb1.mono (by have := HZ0.out; omega))); have HZ1 : Hid (w.heap.size + 2 ≤ w1.heap.size) := hide (by have := hb1.size; have := HZ0.out; omega); clear hb1) | (go_at_call 13; refine (HP.out _ HB1.out).mono ?_; rintro e w2 ⟨v, rfl, hown, hb2⟩; have HX2 : Hid (w2.heap[w.heap.size]? = some (.cells #[.int .i64 n, .slice A ls.length c] 24 (0, 0)) ∧ w2.heap[w.heap.size + 1]? = some (.cells #[.slice none 0 0, .int .i64 0] 35 (0, 0))) := hide ⟨(hb2.block _ (by have := HZ1.out; omega)).trans HX1.out.1, (hb2.block _ (by have := HZ1.out; omega)).trans HX1.out.2⟩; have s0 := cell_of_row w2 w.heap.size 0 _ _ (0, 0) HX2.out.1; have s1 := cell_of_row w2 w.heap.size 1 _ _ (0, 0) HX2.out.1; have y0 := cell_of_row w2 (w.heap.size + 1) 0 _ _ (0, 0) HX2.out.2; have y1 := cell_of_row w2 (w.heap.size + 1) 1 _ _ (0, 0) HX2.out.2; simp at s0 s1 y0 y1; have y2 : ∀ i, w2.frozen? ⟨w.heap.size + 1, i, none⟩ = false := (fun i => by simp [World.frozen?, HX2.out.2]); obtain ⟨A3, c3, hv3, _⟩ := own_sh hown; subst hv3; have HO := hide hown; have HB2 : Hid (Below w.heap.size w w2) := hide (HB1.out.trans (hb2.mono HB1.out.size)); have u01 : ∀ i u, (w2.setCell ⟨w.heap.size + 1, i, none⟩ u).cell? ⟨w.heap.size, 0, none⟩ = some (.int .i64 n) ∧ (w2.setCell ⟨w.heap.size + 1, i, none⟩ u).cell? ⟨w.heap.size, 1, none⟩ = some (.slice A ls.length c) := (fun i u => ⟨(World.cell?_setCell_other _ _ _ _ (fun e => by injection e; omega)).trans s0, (World.cell?_setCell_other _ _ _ _ (fun e => by injection e; omega)).trans s1⟩); clear hown hb2))
    go_wp2_with fail
    refine bodyPost_ret (v := .tuple #[.agg #[.slice A3 ch.length c3, .int .i64 bw], .int .i64 er]) (by simp [results, Try.results19, go_sem, y0, y1]) rfl ?_
    refine ⟨_, rfl, ?_, ?_⟩
    · have hf : ∀ {W : World} {i : Nat} {u v : Value} {xs : List Value} {n : Nat}, W.ownsRow w1.heap.size 3 1 v n xs → (W.setCell ⟨w.heap.size + 1, i, none⟩ u).ownsRow w1.heap.size 3 1 v n xs :=
        fun h => ownsRow_setCell_other h (fun e => by have h5 := (h.lt _ e).1; have h6 := HZ1.out; change _ ≤ w.heap.size + 1 at h5; omega) _
      exact own_base (hf (hf HO.out)) (by have := HZ1.out; omega)
    · repeat (refine Below.setCell ?_ (by show w.heap.size ≤ w.heap.size + 1; omega) _)
      exact HB2.out
  · have HR : Hid (bestI n ls = (([], 0), instE n ls)) := hide (by
      have hm : mayE n ls 0 (allI n) = instE n ls := by unfold mayE; rw [if_pos h1]
      unfold bestI partI
      rw [hm, if_pos h1])
    have h1' : (instE n ls != 0) = true := by simpa using h1
    generalize instE n ls = z at *
    clear h1 h hw hls
    simp only [instV] at *
    go_enter Try.func19, Try.ntmps19
    go_wp2_with (first | (go_at_call 37; refine (HI.out).mono ?_; rintro e w1 ⟨rfl, hb1⟩; have hx1 : w1.heap[w.heap.size + 1]? = some (.cells #[.slice none 0 0, .int .i64 0] 35 (0, 0)) := (hb1.block _ (by simp)).trans HX.out.2; have y0 := cell_of_row w1 (w.heap.size + 1) 0 _ _ (0, 0) hx1; have y1 := cell_of_row w1 (w.heap.size + 1) 1 _ _ (0, 0) hx1; simp at y0 y1; have y2 : ∀ i, w1.frozen? ⟨w.heap.size + 1, i, none⟩ = false := (fun i => by simp [World.frozen?, hx1]); have HB1 : Hid (Below w.heap.size w w1) := hide (HB.out.trans (hb1.mono (by simp; omega))); clear hb1 hx1))
    refine bodyPost_ret (v := .tuple #[.agg #[.slice none 0 0, .int .i64 0], .int .i64 z]) (by simp [results, Try.results19, go_sem, y0, y1]) rfl ?_
    refine ⟨_, by rw [HR.out], ?_, ?_⟩
    · rw [HR.out]
      exact World.ownsRow_nil _ _ _ _
    · repeat (refine Below.setCell ?_ (by show w.heap.size ≤ w.heap.size + 1; omega) _)
      exact HB1.out
end Go.Proofs.Ytkjmpenaifhfjaa
