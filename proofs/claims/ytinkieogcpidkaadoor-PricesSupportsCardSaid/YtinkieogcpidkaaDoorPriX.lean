/- The walk of the law's works. -/
import Derived.Test.YtinkieogcpidkaaDoorPriV
namespace Go.Proofs.YtinkieogcpidkaaDoor
open Go.RowKit Go.Maps Go.Shelf
open Go.ChangeMaps Go.WideMaps

theorem two_blens : BLens twoL := by intro l hl; simp [twoL] at hl; rcases hl with rfl | rfl <;> decide
theorem two_wide : BWide twoL := by
  intro l hl o ho
  simp [twoL] at hl
  rcases hl with rfl | rfl
  · simp at ho; rcases ho with rfl | rfl <;> decide
  · simp at ho; subst ho; decide
theorem two_ints (w : World) (x y : Int) : One intV (w.alloc (.cells #[.int .i64 x, .int .i64 y] 2)) (w.alloc (.cells #[.int .i64 x, .int .i64 y] 2)).heap.size (some ⟨w.heap.size, 0, none⟩) [x, y] :=
  reads_row (xs := [.int .i64 x, .int .i64 y]) (heap_alloc_new w _) rfl
theorem two_ints' (w : World) (x y : Int) : One intV (w.alloc (.cells #[.int .i64 x, .int .i64 y] 3)) (w.alloc (.cells #[.int .i64 x, .int .i64 y] 3)).heap.size (some ⟨w.heap.size, 0, none⟩) [x, y] :=
  reads_row (xs := [.int .i64 x, .int .i64 y]) (heap_alloc_new w _) rfl
set_option maxRecDepth 100000 in
theorem fn_eql0 (fn : Fn) (f c : Array Value) (w : World) : (binOp BinOp.eql 66 (.func fn f c) .nilFunc).run Tryd.prog w = .ok (.bool false) w := rfl
set_option maxRecDepth 100000 in
theorem fn_neq0 (fn : Fn) (f c : Array Value) (w : World) : (binOp BinOp.neq 66 (.func fn f c) .nilFunc).run Tryd.prog w = .ok (.bool true) w := rfl
theorem desc_two {w' : World} {e : Ending} {B : Nat} (h : (instE 2 twoL ≠ 0 ∧ e = .returned (.tuple #[.slice none 0 0, .int .i64 0, .int .i64 (instE 2 twoL)])) ∨
    (instE 2 twoL = 0 ∧ ∃ A c, e = .returned (.tuple #[.slice A (2 : Int).toNat c, .int .i64 (descD 2 twoL).2, .int .i64 0]) ∧ w'.ownsRow B 2 1 (.slice A (2 : Int).toNat c) (2 : Int).toNat (((descD 2 twoL).1.take (2 : Int).toNat).map intV))) :
    ∃ A2 c2, e = .returned (.tuple #[.slice A2 2 c2, .int .i64 11, .int .i64 0]) := by
  rcases h with ⟨h, _⟩ | ⟨_, A, c, rfl, _⟩
  · exact absurd two_inst h
  · exact ⟨A, c, by rw [two_desc]; rfl⟩
set_option maxRecDepth 100000 in
set_option maxHeartbeats 4000000 in
theorem works_any (w : World) (hT : TabW w) : Calls Tryd.prog 8 #[] w (ValPost (.bool true) w) := by
  have HT := hide hT
  have HT2 := hide (fun W => two_any W)
  have HNM := hide (fun n W => num_any n W)
  have HBD := hide (fun A hs W (hB : Buys W W.heap.size A hs twoL) (hT : TabW W) P (hp : One intV W W.heap.size (some P) [5, 4]) => boundP_any 2 A 2 hs twoL (some P) 2 [5, 4] W hT hB (Nat.le_refl _) (by decide) two_blens two_wide hp (by decide) (fun e => by cases e))
  have HDS := hide (fun A hs W (hB : Buys W W.heap.size A hs twoL) (hT : TabW W) => descend2_any 2 A 2 hs twoL W hT hB (Nat.le_refl _) (by decide) two_blens two_wide)
  have HSU := hide (fun A hs W (hB : Buys W W.heap.size A hs twoL) (hT : TabW W) P (hp : One intV W W.heap.size (some P) [5, 4]) Z (hz : One intV W W.heap.size (some Z) [0, 0]) => supports_any 2 A 2 hs twoL (some Z) 2 [0, 0] (some P) 2 [5, 4] W hT hB (Nat.le_refl _) (by decide) two_blens two_wide hp (by decide) (fun e => by cases e) hz (by decide))
  have HST := hide (fun A hs W (hB : Buys W W.heap.size A hs twoL) (hn : NilB hs) => steps_any 2 A 2 hs twoL W two_inst hB (by decide) two_blens two_wide hn)
  rw [two_bound] at HBD
  rw [two_sup] at HSU
  unfold TwoPost at HT2
  have hfn := fn_neq0 (.func 48) #[]
  clear hT
  simp only [instV, List.length_cons, List.length_nil] at *
  go_enter Tryd.func8, Tryd.ntmps8
  have HB : Hid (Below w.heap.size w w) := hide (Below.refl _ _)
  go_wp2_with (first
    | (go_at_call 30; refine (HT2.out _).mono ?_; rintro e w1 ⟨A1, hs1, rfl, hB1, hN1, hb1⟩; have HB := hide (HB.out.trans (hb1.mono HB.out.size)); have HI1 := hide hB1; have HN1 := hide hN1; clear hb1 hB1 hN1)
    | (go_at_call 11; refine (HBD.out A1 hs1 (w1.alloc (.cells #[.int .i64 5, .int .i64 4] 2)) (HI1.out.up ((Below.refl _ _).alloc (Nat.le_refl _) _)) (HT.out.below (HB.out.alloc HB.out.size _)) ⟨w1.heap.size, 0, none⟩ (two_ints w1 5 4)).mono ?_; rintro e w2 ⟨rfl, hb2⟩; have HB := hide ((HB.out.alloc HB.out.size _).trans (hb2.mono (HB.out.alloc HB.out.size _).size)); clear hb2)
    | (go_at_call 21; refine (HDS.out A1 hs1 w1 HI1.out (HT.out.below HB.out)).mono ?_; rintro e w2 ⟨hb2, hor⟩; obtain ⟨A2, c2, rfl⟩ : ∃ A2 c2, e = .returned (.tuple #[.slice A2 2 c2, .int .i64 11, .int .i64 0]) := desc_two hor; have HB := hide (HB.out.trans (hb2.mono HB.out.size)); clear hb2 hor)
    | (go_at_call 18; refine (HSU.out A1 hs1 ((w1.alloc (.cells #[.int .i64 0, .int .i64 0] 3)).alloc (.cells #[.int .i64 5, .int .i64 4] 2)) (HI1.out.up (((Below.refl _ _).alloc (Nat.le_refl _) _).alloc (by simp) _)) (HT.out.below ((HB.out.alloc HB.out.size _).alloc (HB.out.alloc HB.out.size _).size _)) ⟨w1.heap.size + 1, 0, none⟩ (by simpa using two_ints (w1.alloc (.cells #[.int .i64 0, .int .i64 0] 3)) 5 4) ⟨w1.heap.size, 0, none⟩ ((two_ints' w1 0 0).up ((Below.refl _ _).alloc (Nat.le_refl _) _))).mono ?_; rintro e w2 ⟨rfl, hb2⟩; have HB := hide (((HB.out.alloc HB.out.size _).alloc (HB.out.alloc HB.out.size _).size _).trans (hb2.mono ((HB.out.alloc HB.out.size _).alloc (HB.out.alloc HB.out.size _).size _).size)); clear hb2)
    | (go_at_call 31; refine (HST.out A1 hs1 w1 HI1.out HN1.out).mono ?_; rintro e w2 ⟨⟨bp, rfl⟩, hb2⟩; have hfb := fun W => hfn #[bp] W; have HB := hide (HB.out.trans (hb2.mono HB.out.size)); clear hb2)
    | (go_at_call 15; refine (HNM.out _ _).mono ?_; rintro e w2 ⟨rfl, hb2⟩; have HB := hide (HB.out.trans (hb2.mono HB.out.size)); clear hb2))
  go_ret
  exact ⟨rfl, HB.out⟩
end Go.Proofs.YtinkieogcpidkaaDoor
