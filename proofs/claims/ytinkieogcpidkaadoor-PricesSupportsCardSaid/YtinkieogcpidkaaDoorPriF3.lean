/- The walks of the document's Bound, Rest, Supports; of prices.Supports. -/
import Derived.Test.YtinkieogcpidkaaDoorPriF2
namespace Go.Proofs.YtinkieogcpidkaaDoor
open Go.RowKit Go.Maps Go.Shelf
open Go.ChangeMaps Go.WideMaps

theorem lessG_self (a : Nat) (h : a < 4294967296) : lessG a a = 0 := by
  unfold lessG
  apply Nat.eq_of_testBit_eq
  intro i
  rw [Nat.testBit_and, show 4294967295 - a = 2 ^ 32 - (a + 1) by omega, Nat.testBit_two_pow_sub_succ (by omega)]
  cases a.testBit i <;> simp
theorem bound_some {n : Int} {ls : List (List Offer)} {p : List Int} (h : priE n ls p = 0) : boundE n ls p = (restC (cntP p) (allG n.toNat) ls 0, 0) := by
  have hn := priE_goods h
  have e : allI n = allG n.toNat := by unfold allI; rw [if_neg (by omega)]
  unfold boundE restE
  rw [if_neg (by rw [h]; simp), if_neg, e]
  · rfl
  · have hw : withinB (allI n) (allI n) = true := by
      rw [withinB, beq_iff_eq]
      exact lessG_self _ (allI_lt n)
    rw [hw]
    simp
    try omega
theorem bound_none {n : Int} {ls : List (List Offer)} {p : List Int} (h : priE n ls p ≠ 0) : boundE n ls p = (0, priE n ls p) := by
  unfold boundE restE
  rw [if_pos h]

set_option maxRecDepth 100000 in
set_option maxHeartbeats 4000000 in
theorem refBound_any (n : Int) (A : Option Addr) (c : Nat) (hs : List Hdr) (ls : List (List Offer)) (P : Option Addr) (pc : Nat) (p : List Int) (w : World)
    (hB : Buys w w.heap.size A hs ls) (hl : ls.length ≤ 1000000) (hls : BLens ls) (hw : BWide ls) (hp : One intV w w.heap.size P p) (hpl : p.length ≤ 1000000) :
    Calls Tryd.prog 12 #[instV n A ls.length c, .slice P p.length pc] w (ValPost (.tuple #[.int .i64 (boundE n ls p).1, .int .i64 (boundE n ls p).2]) w) := by
  have HB0 : Hid (Below w.heap.size w (w.alloc (.cells #[.int .i64 n, .slice A ls.length c] 24))) := hide ((Below.refl _ _).alloc (Nat.le_refl _) _)
  have HX0 : Hid ((w.alloc (.cells #[.int .i64 n, .slice A ls.length c] 24)).heap[w.heap.size]? = some (.cells #[.int .i64 n, .slice A ls.length c] 24 (0, 0))) := hide (heap_alloc_new w _)
  have HCK := hide (fun W (hb : Below w.heap.size w W) => refcheck_any n A c hs ls P pc p W (hB.up hb) hl hls hw (hp.up hb) hpl)
  have HRS := hide (fun W (hb : Below w.heap.size w W) f hf => refrest_any n A c hs ls 0 (Nat.zero_le _) f hf P pc p W (hB.up hb) hl hls hw (hp.up hb) hpl)
  clear hB hp hls hw
  simp only [instV] at *
  go_enter Tryd.func12, Tryd.ntmps12
  go_upto_region 1 with fail
  generalize w.alloc (.cells #[.int .i64 n, .slice A ls.length c] 24) = w0 at *
  have x0 := cell_of_row _ _ 0 _ _ (0, 0) HX0.out
  have x1 := cell_of_row _ _ 1 _ _ (0, 0) HX0.out
  simp only [List.getElem?_toArray, List.getElem?_cons_zero, List.getElem?_cons_succ] at x0 x1
  have HC := hide (HCK.out w0 HB0.out)
  obtain ⟨ie, hie⟩ : ∃ ie, priE n ls p = ie := ⟨_, rfl⟩
  rw [hie] at HC
  have HIE := hide hie
  clear hie
  go_upto_region 2 with (go_at_call 33; refine (HC.out).mono ?_; rintro e w1 ⟨rfl, hb1⟩; have HB1 := hide (HB0.out.trans (hb1.mono HB0.out.size)); have HX1 := hide ((hb1.block _ (lt_of_block HX0.out)).trans HX0.out); clear hb1)
  clear x0 x1 HC HB0 HX0 HCK
  have x0 := cell_of_row _ _ 0 _ _ (0, 0) HX1.out
  have x1 := cell_of_row _ _ 1 _ _ (0, 0) HX1.out
  simp only [List.getElem?_toArray, List.getElem?_cons_zero, List.getElem?_cons_succ] at x0 x1
  by_cases h0 : ie = 0
  case neg =>
    have HE : Hid (boundE n ls p = (0, ie)) := hide (by rw [bound_none (by rw [HIE.out]; exact h0), HIE.out])
    have hne : (ie != 0) = true := by simpa using h0
    go_wp2_with fail
    go_ret2
    exact ⟨by rw [HE.out]; rfl, HB1.out⟩
  subst h0
  have hn10 := priE_goods HIE.out
  have HE := hide (bound_some HIE.out)
  have hal : allG n.toNat < 4294967296 := by
    have := allI_lt n
    unfold allI at this
    rwa [if_neg (by omega)] at this
  have HALL := hide (fun W => all08_any n (by omega) (by omega) W)
  generalize allG n.toNat = al at *
  clear hn10
  go_upto_region 4 with fail
  clear x0 x1
  have hS0 : w1.drew.cell? ⟨w.heap.size, 0, none⟩ = some (.int .i64 n) ∧ w1.drew.cell? ⟨w.heap.size, 1, none⟩ = some (.slice A ls.length c) := ⟨cell_of_row w1.drew _ 0 _ _ (0, 0) HX1.out, cell_of_row w1.drew _ 1 _ _ (0, 0) HX1.out⟩
  have HR1 := hide (HRS.out w1.drew HB1.out.drew al hal)
  refine wp_region_U 8 (fun X => X.cell? ⟨w.heap.size, 0, none⟩ = some (.int .i64 n) ∧ X.cell? ⟨w.heap.size, 1, none⟩ = some (.slice A ls.length c)) rfl hS0 (fun hHeld => ?_)
  refine AnyU.take (i := 0) (v := ?v101) rfl (by kernel_rfl) (by kernel_rfl) (by kernel_rfl) (by kernel_rfl) (fun _ _ _ h => h) (Or.inl ⟨by rfl, ?hy101⟩) hHeld ?r101
  case hy101 => (intro w hSw; (try dsimp only at hSw); go_simp <;> with_reducible rfl)
  simp only [Act.put, List.setIfInBounds_toArray, List.set_cons_zero, List.set_cons_succ]
  refine AnyU.take (i := 1) (v := ?v102) rfl (by kernel_rfl) (by kernel_rfl) (by kernel_rfl) (by kernel_rfl) (fun _ _ _ h => h) (Or.inl ⟨by rfl, ?hy102⟩) hHeld ?r102
  case hy102 => (intro w hSw; (try dsimp only at hSw); go_simp <;> with_reducible rfl)
  simp only [Act.put, List.setIfInBounds_toArray, List.set_cons_zero, List.set_cons_succ]
  refine AnyU.take (i := 2) (v := ?v103) rfl (by kernel_rfl) (by kernel_rfl) (by kernel_rfl) (by kernel_rfl) (fun _ _ _ h => h) (Or.inl ⟨by rfl, ?hy103⟩) hHeld ?r103
  case hy103 => (intro w hSw; (try dsimp only at hSw); go_simp <;> with_reducible rfl)
  simp only [Act.put, List.setIfInBounds_toArray, List.set_cons_zero, List.set_cons_succ]
  refine AnyU.take (i := 4) (v := ?v104) rfl (by kernel_rfl) (by kernel_rfl) (by kernel_rfl) (by kernel_rfl) (fun _ _ _ h => h) (Or.inl ⟨by rfl, ?hy104⟩) hHeld ?r104
  case hy104 => (intro w hSw; (try dsimp only at hSw); go_simp <;> with_reducible rfl)
  simp only [Act.put, List.setIfInBounds_toArray, List.set_cons_zero, List.set_cons_succ]
  refine AnyU.next (js := [3]) (by kernel_rfl) (by simp) (NextU.cons rfl (fun K hK => ?_) NextU.nil)
  go_simp
  refine (HALL.out _).mono ?_
  rintro e w2 ⟨rfl, rfl⟩
  go_wp2_with fail
  refine hK.out _ _ (fun _ => hS0) (fun hHeld => ?_)
  replace hHeld := hHeld (by decide)
  try simp only [Act.put, List.setIfInBounds_toArray, List.set_cons_zero, List.set_cons_succ]
  clear hK K
  refine AnyU.next (js := [5]) (by kernel_rfl) (by simp) (NextU.cons rfl (fun K hK => ?_) NextU.nil)
  go_simp
  refine (HR1.out).mono ?_
  rintro e w3 ⟨rfl, hb3⟩
  have hS3 : w3.cell? ⟨w.heap.size, 0, none⟩ = some (.int .i64 n) ∧ w3.cell? ⟨w.heap.size, 1, none⟩ = some (.slice A ls.length c) := ⟨(hb3.cell (World.block_lt_of_cell? _ _ hS0.1)).trans hS0.1, (hb3.cell (World.block_lt_of_cell? _ _ hS0.2)).trans hS0.2⟩
  have HB3 := hide (HB1.out.drew.trans (hb3.mono HB1.out.size))
  clear hb3 hS0 hHeld
  go_wp2_with fail
  refine hK.out _ _ (fun _ => hS3) (fun hHeld => ?_)
  replace hHeld := hHeld (by decide)
  try simp only [Act.put, List.setIfInBounds_toArray, List.set_cons_zero, List.set_cons_succ]
  refine AnyU.take (i := 6) (v := ?v105) rfl (by kernel_rfl) (by kernel_rfl) (by kernel_rfl) (by kernel_rfl) (fun _ _ _ h => h) (Or.inl ⟨by rfl, ?hy105⟩) hHeld ?r105
  case hy105 => (intro w hSw; (try dsimp only at hSw); go_simp <;> with_reducible rfl)
  simp only [Act.put, List.setIfInBounds_toArray, List.set_cons_zero, List.set_cons_succ]
  refine AnyU.take (i := 7) (v := ?v106) rfl (by kernel_rfl) (by kernel_rfl) (by kernel_rfl) (by kernel_rfl) (fun _ _ _ h => h) (Or.inl ⟨by rfl, ?hy106⟩) hHeld ?r106
  case hy106 => (intro w hSw; (try dsimp only at hSw); go_simp <;> with_reducible rfl)
  simp only [Act.put, List.setIfInBounds_toArray, List.set_cons_zero, List.set_cons_succ]
  clear hHeld hK K
  refine AnyU.over (by kernel_rfl) ?_ _
  go_wp2_with fail
  go_ret2
  exact ⟨by rw [HE.out]; rfl, HB3.out⟩
end Go.Proofs.YtinkieogcpidkaaDoor
