/- The walks of the laws' helpers: small, known. -/
import Derived.Test.YtkjmpenaifhfjaaLawA
namespace Go.Proofs.Ytkjmpenaifhfjaa
open Go.RowKit Go.Maps
open Go.ChangeMaps Go.WideMaps

def smallL : List (List Offer) := [[(1, 5), (3, 9)], [(2, 6), (6, 7)], [(2, 5)]]
theorem small_best : bestI 3 smallL = (([0, 1, -1], 12), 0) := by decide
theorem small_less : lessI 3 smallL 1 = (([0, -1, 0], 10), 0) := by decide
theorem small_wide : BWide smallL := by unfold BWide OWide smallL; decide
theorem small_lens : BLens smallL := by unfold BLens smallL; decide

theorem five (w : World) (o0 o1 o2 o3 o4 : Obj) :
    (((((w.alloc o0).alloc o1).alloc o2).alloc o3).alloc o4).heap[w.heap.size + 1]? = some o1 ∧ (((((w.alloc o0).alloc o1).alloc o2).alloc o3).alloc o4).heap[w.heap.size + 1 + 1]? = some o2 ∧
    (((((w.alloc o0).alloc o1).alloc o2).alloc o3).alloc o4).heap[w.heap.size + 1 + 1 + 1]? = some o3 ∧ (((((w.alloc o0).alloc o1).alloc o2).alloc o3).alloc o4).heap[w.heap.size + 4]? = some o4 ∧
    (((((w.alloc o0).alloc o1).alloc o2).alloc o3).alloc o4).heap.size = w.heap.size + 5 := by
  refine ⟨?_, ?_, ?_, ?_, by simp⟩
  · rw [Below.heap_alloc _ _ _ (by simp <;> omega), Below.heap_alloc _ _ _ (by simp <;> omega), Below.heap_alloc _ _ _ (by simp)]
    have := heap_alloc_new (w.alloc o0) o1
    simpa using this
  · rw [Below.heap_alloc _ _ _ (by simp <;> omega), Below.heap_alloc _ _ _ (by simp)]
    have := heap_alloc_new ((w.alloc o0).alloc o1) o2
    simpa using this
  · rw [Below.heap_alloc _ _ _ (by simp)]
    have := heap_alloc_new (((w.alloc o0).alloc o1).alloc o2) o3
    simpa using this
  · have := heap_alloc_new ((((w.alloc o0).alloc o1).alloc o2).alloc o3) o4
    simpa using this

/-- A whole block reads as a slice. -/
theorem reads_block {w : World} {b : Nat} {cs : List Value} {t : TypeId} {size n : Nat} (hb : w.heap[b]? = some (.cells cs.toArray t (0, 0))) (hn : cs.length = n * size) : Reads w w.heap.size size (some ⟨b, 0, none⟩) n cs := by
  refine ⟨hn, fun _ => ⟨b, 0, rfl, lt_of_block hb, fun j u hu => ?_⟩⟩
  rw [Nat.zero_add]
  exact cell_of_row w b j _ _ (0, 0) hb |>.trans (by simpa using hu)

def SmallPost (w : World) (e : Ending) (w' : World) : Prop :=
  ∃ A c hs, e = .returned (instV 3 A 3 c) ∧ Buys w' w'.heap.size A hs smallL ∧ NilB hs ∧ Below w.heap.size w w'
set_option maxRecDepth 100000 in
set_option maxHeartbeats 2000000 in
theorem small_any (w : World) : Calls Try.prog 27 #[] w (SmallPost w) := by
  go_enter Try.func27, Try.ntmps27
  go_wp2_with fail
  refine bodyPost_ret (v := instV 3 (some ⟨w.heap.size + 4, 0, none⟩) 3 3) (by simp [results, Try.results27, go_sem]) rfl ?_
  refine ⟨some ⟨w.heap.size + 4, 0, none⟩, 3, [(some ⟨w.heap.size + 1, 0, none⟩, 2), (some ⟨w.heap.size + 1 + 1, 0, none⟩, 2), (some ⟨w.heap.size + 1 + 1 + 1, 0, none⟩, 1)], rfl, ?_, ?_, ?_⟩
  · obtain ⟨h1, h2, h3, h4, hz⟩ := five w (.cells #[.int .i64 3, .slice (some ⟨w.heap.size + 1 + 1 + 1 + 1, 0, none⟩) 3 3] 24) (.cells #[.int .u32 1, .int .i64 5, .int .u32 3, .int .i64 9] 51) (.cells #[.int .u32 2, .int .i64 6, .int .u32 6, .int .i64 7] 51) (.cells #[.int .u32 2, .int .i64 5] 51) (.cells #[.slice (some ⟨w.heap.size + 1, 0, none⟩) 2 2, .slice (some ⟨w.heap.size + 1 + 1, 0, none⟩) 2 2, .slice (some ⟨w.heap.size + 1 + 1 + 1, 0, none⟩) 1 1] 52)
    refine ⟨rfl, reads_block (cs := List.zipWith hdrV _ smallL) h4 rfl, fun i a l ha hl => ?_⟩
    rcases i with _ | _ | _ | i
    · simp [smallL] at ha hl
      subst ha hl
      exact ⟨reads_block (cs := cells2 offV [(1, 5), (3, 9)]) h1 rfl, by simp⟩
    · simp [smallL] at ha hl
      subst ha hl
      exact ⟨reads_block (cs := cells2 offV [(2, 6), (6, 7)]) h2 rfl, by simp⟩
    · simp [smallL] at ha hl
      subst ha hl
      exact ⟨reads_block (cs := cells2 offV [(2, 5)]) h3 rfl, by simp⟩
    · simp [smallL] at hl
  · intro a ha
    simp at ha
    rcases ha with rfl | rfl | rfl <;> intro h <;> cases h
  · exact (((((Below.refl _ _).alloc (Nat.le_refl _) _).alloc (by simp) _).alloc (by simp; omega) _).alloc (by simp; omega) _).alloc (by simp; omega) _

theorem lit_one (w : World) (a b c : Int) : One intV (w.alloc (.cells #[.int .i64 a, .int .i64 b, .int .i64 c] 3)) (w.alloc (.cells #[.int .i64 a, .int .i64 b, .int .i64 c] 3)).heap.size (some ⟨w.heap.size, 0, none⟩) [a, b, c] :=
  reads_block (cs := [intV a, intV b, intV c]) (heap_alloc_new w _) rfl

set_option maxRecDepth 100000 in
set_option maxHeartbeats 1000000 in
theorem known_any (w : World) : Calls Try.prog 9 #[] w (ValPost (.bool true) w) := by
  have HSM := hide (fun W => small_any W)
  have HBE : Hid (∀ (W : World) (A : Option Addr) (c : Nat) (hs : List Hdr), Buys W W.heap.size A hs smallL → Calls Try.prog 16 #[instV 3 A 3 c] W (ClearPost (([0, 1, -1], 12), 0) W)) := hide (fun W A c hs h => by
    rw [← small_best]
    exact best_any 3 A c hs smallL W h (by decide) small_lens small_wide)
  have HWI : Hid (∀ (W : World) (A : Option Addr) (c : Nat) (hs : List Hdr), Buys W W.heap.size A hs smallL → NilB hs → Calls Try.prog 18 #[instV 3 A 3 c, .int .i64 1] W (ClearPost (([0, -1, 0], 10), 0) W)) := hide (fun W A c hs h hn => by
    rw [← small_less]
    exact less_any 3 A c hs smallL 1 W h (by decide) small_lens small_wide hn)
  have HSA : Hid (∀ (W : World) (A A' : Option Addr) (c c' : Nat) (l : List Int) (z : Int), One intV W W.heap.size A l → One intV W W.heap.size A' l → l.length = 3 → Calls Try.prog 14 #[.agg #[.slice A 3 c, .int .i64 z], .agg #[.slice A' 3 c', .int .i64 z]] W (ValPost (.bool true) W)) := hide (fun W A A' c c' l z h h' hl => by
    have := same_eq A c A' c' l z W h h' (by omega)
    rw [hl] at this
    exact this)
  simp only [instV] at *
  go_enter Try.func9, Try.ntmps9
  go_wp2_with fail
  refine (HSM.out _).mono ?_
  rintro e w1 ⟨A1, c1, hs1, rfl, hbuy1, hnil1, hb1⟩
  have HBU1 := hide hbuy1
  have HB1 := hide hb1
  clear hbuy1 hb1
  simp only [instV]
  go_wp2_with fail
  refine (HBE.out w1 A1 c1 hs1 HBU1.out).mono ?_
  rintro e w2 ⟨v2, rfl, hown2, hb2⟩
  obtain ⟨A2, c2, rfl, _⟩ := own_sh hown2
  have HO2 := hide hown2
  have HB2 : Hid (Below w.heap.size w w2) := hide (HB1.out.trans (hb2.mono HB1.out.size))
  have HON2 : Hid (One intV w2 w2.heap.size A2 [0, 1, -1]) := hide (One.of_own hown2 rfl)
  clear hown2 hb2
  go_wp2_with fail
  have HX3 : Hid ((w2.alloc (.cells #[.slice A2 3 c2, .int .i64 12] 35)).heap[w2.heap.size]? = some (.cells #[.slice A2 3 c2, .int .i64 12] 35 (0, 0))) := hide (heap_alloc_new w2 _)
  have HB3 : Hid (Below w2.heap.size w2 (w2.alloc (.cells #[.slice A2 3 c2, .int .i64 12] 35))) := hide ((Below.refl _ _).alloc (Nat.le_refl _) _)
  have hsz3 : (w2.alloc (.cells #[.slice A2 3 c2, .int .i64 12] 35)).heap.size = w2.heap.size + 1 := by simp
  have HZ3 := hide hsz3
  clear hsz3
  generalize w2.alloc (.cells #[.slice A2 3 c2, .int .i64 12] 35) = w3 at *
  refine (HSM.out _).mono ?_
  rintro e w4 ⟨A4, c4, hs4, rfl, hbuy4, hnil4, hb4⟩
  have HBU4 := hide hbuy4
  have HB4 := hide hb4
  clear hbuy4 hb4
  simp only [instV]
  go_wp2_with fail
  refine (HWI.out w4 A4 c4 hs4 HBU4.out hnil4).mono ?_
  rintro e w5 ⟨v5, rfl, hown5, hb5⟩
  obtain ⟨A5, c5, rfl, _⟩ := own_sh hown5
  have HON5 : Hid (One intV w5 w5.heap.size A5 [0, -1, 0]) := hide (One.of_own hown5 rfl)
  have HB5 : Hid (Below w3.heap.size w3 w5) := hide (HB4.out.trans (hb5.mono HB4.out.size))
  have HX5 : Hid (w5.heap[w2.heap.size]? = some (.cells #[.slice A2 3 c2, .int .i64 12] 35 (0, 0))) := hide ((HB5.out.block _ (by rw [HZ3.out]; omega)).trans HX3.out)
  have HON2' : Hid (One intV w5 w2.heap.size A2 [0, 1, -1]) := hide ((HON2.out.below HB3.out).below (HB5.out.mono HB3.out.size))
  have HBW5 : Hid (Below w.heap.size w w5) := hide ((HB2.out.trans (HB3.out.mono HB2.out.size)).trans (HB5.out.mono (by have := HB2.out.size; rw [HZ3.out]; omega)))
  clear hown5 hb5 hnil1 hnil4
  go_upto_region 3 with fail
  have HX6 : Hid ((w5.alloc (.cells #[.slice A5 3 c5, .int .i64 10] 35)).heap[w2.heap.size]? = some (.cells #[.slice A2 3 c2, .int .i64 12] 35 (0, 0)) ∧ (w5.alloc (.cells #[.slice A5 3 c5, .int .i64 10] 35)).heap[w5.heap.size]? = some (.cells #[.slice A5 3 c5, .int .i64 10] 35 (0, 0))) := hide ⟨(Below.heap_alloc _ _ _ (lt_of_block HX5.out)).trans HX5.out, heap_alloc_new w5 _⟩
  have HB6 : Hid (Below w5.heap.size w5 (w5.alloc (.cells #[.slice A5 3 c5, .int .i64 10] 35))) := hide ((Below.refl _ _).alloc (Nat.le_refl _) _)
  generalize w5.alloc (.cells #[.slice A5 3 c5, .int .i64 10] 35) = w6 at *
  have x0 : w6.cell? ⟨w2.heap.size, 0, none⟩ = some (.slice A2 3 c2) := cell_of_row w6 w2.heap.size 0 _ _ (0, 0) HX6.out.1
  have x1 : w6.cell? ⟨w2.heap.size, 1, none⟩ = some (.int .i64 12) := cell_of_row w6 w2.heap.size 1 _ _ (0, 0) HX6.out.1
  have HBW6 : Hid (Below w.heap.size w w6) := hide (HBW5.out.trans (HB6.out.mono HBW5.out.size))
  have HBW7 : ∀ o, Hid (Below w6.heap.size w6 (w6.alloc o)) := fun o => hide ((Below.refl _ _).alloc (Nat.le_refl _) _)
  have hl25 : w2.heap.size ≤ w5.heap.size := by have := HB5.out.size; have := HZ3.out; omega
  have HS1 : Hid (Calls Try.prog 14 #[.agg #[.slice A2 3 c2, .int .i64 12], .agg #[.slice (some ⟨w6.heap.size, 0, none⟩) 3 3, .int .i64 12]] (w6.alloc (.cells #[.int .i64 0, .int .i64 1, .int .i64 (-1)] 3)) (ValPost (.bool true) (w6.alloc (.cells #[.int .i64 0, .int .i64 1, .int .i64 (-1)] 3)))) :=
    hide (HSA.out _ A2 (some ⟨w6.heap.size, 0, none⟩) c2 3 [0, 1, -1] 12 (((((HON2'.out.more hl25).up HB6.out).up (HBW7 _).out))) (lit_one w6 0 1 (-1)) rfl)
  go_wp2_with fail
  refine (HS1.out).mono ?_
  rintro e w7 ⟨rfl, hb7⟩
  have HB7 : Hid (Below w6.heap.size w6 w7) := hide ((HBW7 _).out.trans (hb7.mono (by simp)))
  have hx7 : w7.heap[w5.heap.size]? = some (.cells #[.slice A5 3 c5, .int .i64 10] 35 (0, 0)) := (HB7.out.block _ (lt_of_block HX6.out.2)).trans HX6.out.2
  have y0 : w7.cell? ⟨w5.heap.size, 0, none⟩ = some (.slice A5 3 c5) := cell_of_row w7 w5.heap.size 0 _ _ (0, 0) hx7
  have y1 : w7.cell? ⟨w5.heap.size, 1, none⟩ = some (.int .i64 10) := cell_of_row w7 w5.heap.size 1 _ _ (0, 0) hx7
  have HBO7 : Hid (Below w7.heap.size w7 (w7.alloc (.cells #[.int .i64 0, .int .i64 (-1), .int .i64 0] 3))) := hide ((Below.refl _ _).alloc (Nat.le_refl _) _)
  have HS2 : Hid (Calls Try.prog 14 #[.agg #[.slice A5 3 c5, .int .i64 10], .agg #[.slice (some ⟨w7.heap.size, 0, none⟩) 3 3, .int .i64 10]] (w7.alloc (.cells #[.int .i64 0, .int .i64 (-1), .int .i64 0] 3)) (ValPost (.bool true) (w7.alloc (.cells #[.int .i64 0, .int .i64 (-1), .int .i64 0] 3)))) :=
    hide (HSA.out _ A5 (some ⟨w7.heap.size, 0, none⟩) c5 3 [0, -1, 0] 10 (((HON5.out.up HB6.out).up HB7.out).up HBO7.out) (lit_one w7 0 (-1) 0) rfl)
  have HBW8 : Hid (Below w.heap.size w (w7.alloc (.cells #[.int .i64 0, .int .i64 (-1), .int .i64 0] 3))) := hide ((HBW6.out.trans (HB7.out.mono HBW6.out.size)).alloc (by have := HBW6.out.size; have := HB7.out.size; omega) _)
  clear hb7 hx7 x0 x1
  go_wp2_with fail
  refine (HS2.out).mono ?_
  rintro e w9 ⟨rfl, hb9⟩
  have HB9 : Hid (Below w.heap.size w w9) := hide (HBW8.out.trans (hb9.mono HBW8.out.size))
  clear hb9 y0 y1
  go_wp2_with fail
  go_ret
  exact ⟨rfl, HB9.out⟩
end Go.Proofs.Ytkjmpenaifhfjaa
