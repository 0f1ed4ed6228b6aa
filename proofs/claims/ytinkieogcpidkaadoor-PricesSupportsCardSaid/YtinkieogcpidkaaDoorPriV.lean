/- The walks of prices.Steps, of the law's two, num. -/
import Derived.Test.YtinkieogcpidkaaDoorPriT
namespace Go.Proofs.YtinkieogcpidkaaDoor
open Go.RowKit Go.Maps Go.Shelf
open Go.ChangeMaps Go.WideMaps

theorem num_any (n : Int) (w : World) : Calls Tryd.prog 15 #[.int .i64 n] w (ValPost (.int .i64 n) w) := by
  go_enter Tryd.func15, Tryd.ntmps15
  go_wp2
  go_ret
  exact ⟨rfl, Below.refl _ _⟩
def TwoPost (w : World) (e : Ending) (w' : World) : Prop := ∃ A hs, e = .returned (instV 2 A twoL.length 2) ∧ Buys w' w'.heap.size A hs twoL ∧ NilB hs ∧ Below w.heap.size w w'
theorem four_boxes (w : World) (o1 o2 o3 o4 : Obj) : (((((w.alloc o1).alloc o2).alloc o3).alloc o4).heap[w.heap.size]? = some o1 ∧ ((((w.alloc o1).alloc o2).alloc o3).alloc o4).heap[w.heap.size + 1]? = some o2 ∧ ((((w.alloc o1).alloc o2).alloc o3).alloc o4).heap[w.heap.size + 1 + 1]? = some o3 ∧
    ((((w.alloc o1).alloc o2).alloc o3).alloc o4).heap[w.heap.size + 1 + 1 + 1]? = some o4) ∧ Below w.heap.size w ((((w.alloc o1).alloc o2).alloc o3).alloc o4) := by
  have h2 := heap_alloc_new (w.alloc o1) o2
  have h3 := heap_alloc_new ((w.alloc o1).alloc o2) o3
  have h4 := heap_alloc_new (((w.alloc o1).alloc o2).alloc o3) o4
  simp only [World.size_alloc] at h2 h3 h4
  refine ⟨⟨?_, ?_, ?_, h4⟩, ((((Below.refl _ _).alloc (Nat.le_refl _) _).alloc (by simp only [World.size_alloc]; omega) _).alloc (by simp only [World.size_alloc]; omega) _).alloc (by simp only [World.size_alloc]; omega) _⟩
  · exact (Below.heap_alloc _ _ _ (by simp only [World.size_alloc]; omega)).trans ((Below.heap_alloc _ _ _ (by simp only [World.size_alloc]; omega)).trans ((Below.heap_alloc _ _ _ (by simp only [World.size_alloc]; omega)).trans (heap_alloc_new w _)))
  · exact (Below.heap_alloc _ _ _ (by simp only [World.size_alloc]; omega)).trans ((Below.heap_alloc _ _ _ (by simp only [World.size_alloc]; omega)).trans h2)
  · exact (Below.heap_alloc _ _ _ (by simp only [World.size_alloc]; omega)).trans h3
theorem reads_row {W : World} {g : Nat} {xs : List Value} {e : TypeId} {fr : Nat × Nat} {size n : Nat} (h : W.heap[g]? = some (.cells xs.toArray e fr)) (hn : xs.length = n * size) : Reads W W.heap.size size (some ⟨g, 0, none⟩) n xs :=
  ⟨hn, fun _ => ⟨g, 0, rfl, lt_of_block h, fun j x hx => by rw [Nat.zero_add, cell_of_row W g j _ _ fr h, List.getElem?_toArray]; exact hx⟩⟩
set_option maxRecDepth 100000 in
set_option maxHeartbeats 2000000 in
theorem two_any (w : World) : Calls Tryd.prog 30 #[] w (TwoPost w) := by
  go_enter Tryd.func30, Tryd.ntmps30
  go_wp2
  obtain ⟨⟨h0, h1, h2, h3⟩, hb⟩ := four_boxes w (.cells #[.int .i64 2, .slice (some ⟨w.heap.size + 1 + 1 + 1, 0, none⟩) 2 2] 24) (.cells #[.int .u32 1, .int .i64 6, .int .u32 3, .int .i64 9] 59) (.cells #[.int .u32 2, .int .i64 5] 59) (.cells #[.slice (some ⟨w.heap.size + 1, 0, none⟩) 2 2, .slice (some ⟨w.heap.size + 1 + 1, 0, none⟩) 1 1] 55)
  generalize (((w.alloc (.cells #[.int .i64 2, .slice (some ⟨w.heap.size + 1 + 1 + 1, 0, none⟩) 2 2] 24)).alloc (.cells #[.int .u32 1, .int .i64 6, .int .u32 3, .int .i64 9] 59)).alloc (.cells #[.int .u32 2, .int .i64 5] 59)).alloc (.cells #[.slice (some ⟨w.heap.size + 1, 0, none⟩) 2 2, .slice (some ⟨w.heap.size + 1 + 1, 0, none⟩) 1 1] 55) = w4 at *
  have x0 := cell_of_row _ _ 0 _ _ (0, 0) h0
  have x1 := cell_of_row _ _ 1 _ _ (0, 0) h0
  simp only [List.getElem?_toArray, List.getElem?_cons_zero, List.getElem?_cons_succ] at x0 x1
  refine bodyPost_ret (v := instV 2 (some ⟨w.heap.size + 1 + 1 + 1, 0, none⟩) 2 2) (by simp [results, Tryd.results30, go_sem, x0, x1]) rfl ?_
  refine ⟨some ⟨w.heap.size + 1 + 1 + 1, 0, none⟩, [(some ⟨w.heap.size + 1, 0, none⟩, 2), (some ⟨w.heap.size + 1 + 1, 0, none⟩, 1)], rfl, ⟨rfl, reads_row (xs := [.slice (some ⟨w.heap.size + 1, 0, none⟩) 2 2, .slice (some ⟨w.heap.size + 1 + 1, 0, none⟩) 1 1]) h3 rfl, fun i a l ha hl => ?_⟩, fun a ha e => ?_, hb⟩
  · match i with
    | 0 =>
      injection ha with ha
      injection hl with hl
      subst ha hl
      exact ⟨reads_row (xs := [.int .u32 1, .int .i64 6, .int .u32 3, .int .i64 9]) h1 rfl, Nat.le_refl 2⟩
    | 1 =>
      injection ha with ha
      injection hl with hl
      subst ha hl
      exact ⟨reads_row (xs := [.int .u32 2, .int .i64 5]) h2 rfl, Nat.le_refl 1⟩
    | i + 2 => simp [twoL] at hl
  · simp only [List.mem_cons, List.not_mem_nil, or_false] at ha
    rcases ha with rfl | rfl <;> cases e
set_option maxRecDepth 100000 in
set_option maxHeartbeats 2000000 in
theorem steps_any (n : Int) (A : Option Addr) (c : Nat) (hs : List Hdr) (ls : List (List Offer)) (w : World) (h0 : instE n ls = 0)
    (hB : Buys w w.heap.size A hs ls) (hl : ls.length ≤ 1000000) (hls : BLens ls) (hw : BWide ls) (hnil : NilB hs) :
    Calls Tryd.prog 31 #[instV n A ls.length c] w fun e w' => (∃ b, e = .returned (.tuple #[.func (.func 48) #[] #[b], .int .i64 0])) ∧ Below w.heap.size w w' := by
  have HB0 : Hid (Below w.heap.size w (w.alloc (.cells #[.int .i64 n, .slice A ls.length c] 24))) := hide ((Below.refl _ _).alloc (Nat.le_refl _) _)
  have HX0 : Hid ((w.alloc (.cells #[.int .i64 n, .slice A ls.length c] 24)).heap[w.heap.size]? = some (.cells #[.int .i64 n, .slice A ls.length c] 24 (0, 0))) := hide (heap_alloc_new w _)
  have HI := hide (fun W (hb : Below w.heap.size w W) => inst_any n A c hs ls W (hB.up hb) hl hls hw)
  have HCP := hide (fun W (hb : Below w.heap.size w W) => copy_any n A c hs ls W (hB.up hb) hl hls hnil)
  rw [h0] at HI
  unfold CopyPost at HCP
  clear hB hls hw hnil h0
  simp only [instV] at *
  go_enter Tryd.func31, Tryd.ntmps31
  go_upto_region 1 with fail
  generalize w.alloc (.cells #[.int .i64 n, .slice A ls.length c] 24) = w0 at *
  have x0 := cell_of_row _ _ 0 _ _ (0, 0) HX0.out
  have x1 := cell_of_row _ _ 1 _ _ (0, 0) HX0.out
  simp only [List.getElem?_toArray, List.getElem?_cons_zero, List.getElem?_cons_succ] at x0 x1
  have HC := hide (HI.out w0 HB0.out)
  go_upto_region 2 with (go_at_call 42; refine (HC.out).mono ?_; rintro e w1 ⟨rfl, hb1⟩; have HB1 := hide (HB0.out.trans (hb1.mono HB0.out.size)); have HX1 := hide ((hb1.block _ (lt_of_block HX0.out)).trans HX0.out); clear hb1)
  clear x0 x1 HC HB0 HX0 HI
  have x0 := cell_of_row _ _ 0 _ _ (0, 0) HX1.out
  have x1 := cell_of_row _ _ 1 _ _ (0, 0) HX1.out
  simp only [List.getElem?_toArray, List.getElem?_cons_zero, List.getElem?_cons_succ] at x0 x1
  have HC := hide (HCP.out w1 HB1.out)
  go_wp2_with (go_at_call 47; refine (HC.out).mono ?_; rintro e w2 ⟨A2, c2, hs2, rfl, _, hb2⟩; have HB2 := hide (HB1.out.trans (hb2.mono HB1.out.size)); have hx2 := (hb2.block _ (lt_of_block HX1.out)).trans HX1.out; have y0 := cell_of_row _ _ 0 _ _ (0, 0) hx2; have y1 := cell_of_row _ _ 1 _ _ (0, 0) hx2; have y2 := fun i => frozen_of_row _ _ i _ _ hx2; simp only [List.getElem?_toArray, List.getElem?_cons_zero, List.getElem?_cons_succ] at y0 y1; clear hb2 hx2; try simp only [instV])
  refine bodyPost_ret (v := .tuple #[.func (.func 48) #[] #[.pointer (some ⟨w.heap.size, 0, none⟩)], .int .i64 0]) (by simp [results, Tryd.results31, go_sem]) rfl ?_
  exact ⟨⟨_, rfl⟩, (HB2.out.setCell (Nat.le_refl _) _).setCell (Nat.le_refl _) _⟩
end Go.Proofs.YtinkieogcpidkaaDoor
