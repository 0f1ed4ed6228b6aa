/- The walks of call.sides and of a side's at. -/
import Derived.Test.YtogicdljbnllgaaSortS
namespace Go.Proofs.Ytogicdljbnllgaa
open Go.Shelf Go.RowKit Go.Lib Go.Sort Go.Proofs

/-- What counts on the buyers' side, and on the sellers'. -/
def κB (x : Int × Int) : Int := -x.1
def κS (x : Int × Int) : Int := x.1
theorem sgn_neg (a b : Int) : sgnI b a = sgnI (-a) (-b) := by
  unfold sgnI
  (repeat' split) <;> omega
def SidesP (A : Option Addr) (c : Nat) (b : List (Int × Int)) (A' : Option Addr) (c' : Nat) (s : List (Int × Int)) (w : World) (e : Ending) (w' : World) : Prop :=
  ∃ v v', e = .returned (.tuple #[.agg #[.slice A b.length c, v], .agg #[.slice A' s.length c', v']]) ∧ w'.ownsRow w.heap.size 3 1 v b.length ((ordK κB b).map (Value.int .i64)) ∧ w'.ownsRow w.heap.size 3 1 v' s.length ((ordK κS s).map (Value.int .i64)) ∧ Below w.heap.size w w'

theorem three (w : World) (o0 o1 o2 : Obj) : (((w.alloc o0).alloc o1).alloc o2).heap[w.heap.size]? = some o0 ∧ (((w.alloc o0).alloc o1).alloc o2).heap[w.heap.size + 1]? = some o1 ∧ (((w.alloc o0).alloc o1).alloc o2).heap[w.heap.size + 1 + 1]? = some o2 ∧ Below w.heap.size w (((w.alloc o0).alloc o1).alloc o2) := by
  refine ⟨?_, ?_, ?_, (((Below.refl _ _).alloc (Nat.le_refl _) _).alloc (by simp) _).alloc (by simp; omega) _⟩
  · rw [Below.heap_alloc _ _ _ (by simp; omega), Below.heap_alloc _ _ _ (by simp)]
    exact heap_alloc_new w _
  · rw [Below.heap_alloc _ _ _ (by simp)]
    have := heap_alloc_new (w.alloc o0) o1
    simpa using this
  · have := heap_alloc_new ((w.alloc o0).alloc o1) o2
    simpa using this

set_option maxRecDepth 100000 in
set_option maxHeartbeats 4000000 in
theorem sides_any (A : Option Addr) (c : Nat) (b : List (Int × Int)) (A' : Option Addr) (c' : Nat) (s : List (Int × Int)) (w : World) (h : Wants w w.heap.size A b) (h' : Wants w w.heap.size A' s) (hb : b.length ≤ 1000000) (hs : s.length ≤ 1000000) :
    Calls Try.prog 39 #[.slice A b.length c, .slice A' s.length c'] w (SidesP A c b A' c' s w) := by
  obtain ⟨t0, t1, t2, t3⟩ := three w (.cells #[.slice none 0 0, .slice none 0 0] 82) (.cells #[.slice none 0 0, .slice none 0 0] 82) (.cells #[.func (.func 44) #[] #[]] 91)
  have hmf : ∀ (fn : Fn) (first cap : Array Value) (w : World), (Instr.makeFunc fn first cap).run Try.prog w = .ok (.func fn first cap) w := fun _ _ _ _ => rfl
  have hsf : ∀ (a : Addr) (m : Mode) (fn : Fn) (first captured : Array Value) (w : World), (store a (.func fn first captured) m).run Try.prog w = stored Try.prog w a (.func fn first captured) m := fun a m fn first captured w => run_store Try.prog w a _ m rfl
  have H0 := hide t0
  have H1 := hide t1
  have H2 := hide t2
  have HB1 := hide t3
  have HA := hide h
  have HA' := hide h'
  clear t0 t1 t2 t3 h h'
  go_enter Try.func39, Try.ntmps39
  go_wp2_with fail
  generalize ((w.alloc (.cells #[.slice none 0 0, .slice none 0 0] 82)).alloc (.cells #[.slice none 0 0, .slice none 0 0] 82)).alloc (.cells #[.func (.func 44) #[] #[]] 91) = w3 at *
  have hS0 : w3.drew.cell? ⟨w.heap.size + 1 + 1, 0, none⟩ = some (.func (.func 44) #[] #[]) := cell_of_row w3.drew _ 0 _ _ (0, 0) H2.out
  have HSO := hide (sorted_any κB 47 #[.pointer (some ⟨w.heap.size + 1 + 1, 0, none⟩)] A c b w3.drew ((HA.out.below HB1.out).more HB1.out.size) hb (enters_of Try.func47 (by kernel_rfl) rfl) (fun X hX x y => (falling_any _ x y X ((hX.cell (World.block_lt_of_cell? _ _ hS0)).trans hS0)).mono (fun e w' h => by rw [sgn_neg] at h; exact h)))
  refine wp_region_U 8 (fun W => W.cell? ⟨w.heap.size + 1 + 1, 0, none⟩ = some (.func (.func 44) #[] #[])) rfl hS0 (fun hHeld => ?_)
  refine AnyU.take (i := 0) (v := ?v201) rfl (by kernel_rfl) (by kernel_rfl) (by kernel_rfl) (by kernel_rfl) (fun _ _ _ h => h) (Or.inl ⟨by rfl, ?hy201⟩) hHeld ?r201
  case hy201 => (intro w hSw; (try dsimp only at hSw); go_simp <;> with_reducible rfl)
  simp only [Act.put, List.setIfInBounds_toArray, List.set_cons_zero, List.set_cons_succ]
  refine AnyU.take (i := 1) (v := ?v202) rfl (by kernel_rfl) (by kernel_rfl) (by kernel_rfl) (by kernel_rfl) (fun _ _ _ h => h) (Or.inl ⟨by rfl, ?hy202⟩) hHeld ?r202
  case hy202 => (intro w hSw; (try dsimp only at hSw); go_simp <;> with_reducible rfl)
  simp only [Act.put, List.setIfInBounds_toArray, List.set_cons_zero, List.set_cons_succ]
  refine AnyU.take (i := 3) (v := ?v203) rfl (by kernel_rfl) (by kernel_rfl) (by kernel_rfl) (by kernel_rfl) (fun _ _ _ h => h) (Or.inl ⟨by rfl, ?hy203⟩) hHeld ?r203
  case hy203 => (intro w hSw; (try dsimp only at hSw); go_simp <;> with_reducible rfl)
  simp only [Act.put, List.setIfInBounds_toArray, List.set_cons_zero, List.set_cons_succ]
  refine AnyU.take (i := 4) (v := ?v204) rfl (by kernel_rfl) (by kernel_rfl) (by kernel_rfl) (by kernel_rfl) (fun _ _ _ h => h) (Or.inl ⟨by rfl, ?hy204⟩) hHeld ?r204
  case hy204 => (intro w hSw; (try dsimp only at hSw); go_simp <;> with_reducible rfl)
  simp only [Act.put, List.setIfInBounds_toArray, List.set_cons_zero, List.set_cons_succ]
  refine AnyU.next (js := [2]) (by kernel_rfl) (by simp) (NextU.cons rfl (fun K hK => ?_) NextU.nil)
  go_simp
  refine (HSO.out).mono ?_
  rintro e w4 ⟨v, rfl, ho4, hb4⟩
  replace hb4 : Below w3.heap.size w3 w4 := ⟨hb4.os, hb4.tape, hb4.output, hb4.size, hb4.block⟩
  obtain ⟨A3, k3, rfl, _⟩ := own_sh ho4
  have HB4 : Hid (Below w.heap.size w w4) := hide (HB1.out.trans (hb4.mono HB1.out.size))
  have HF4 : Hid (Below w3.heap.size w3 w4) := hide hb4
  have HO4 : Hid (w4.ownsRow w3.heap.size 3 1 (.slice A3 b.length k3) b.length ((ordK κB b).map (Value.int .i64))) := hide ho4
  have hS4 : w4.cell? ⟨w.heap.size + 1 + 1, 0, none⟩ = some (.func (.func 44) #[] #[]) := (hb4.cell (World.block_lt_of_cell? _ _ hS0)).trans hS0
  have HST := hide (sorted_any κS 44 #[] A' c' s w4 ((HA'.out.below HB4.out).more HB4.out.size) hs (enters_of Try.func44 (by kernel_rfl) rfl) (fun X hX x y => rising_any x y X))
  clear ho4 hb4 hS0 HSO hHeld
  go_wp2_with fail
  refine hK.out _ _ (fun _ => hS4) (fun hHeld => ?_)
  replace hHeld := hHeld (by decide)
  try simp only [Act.put, List.setIfInBounds_toArray, List.set_cons_zero, List.set_cons_succ]
  refine AnyU.next (js := [5]) (by kernel_rfl) (by simp) (NextU.cons rfl (fun K hK => ?_) NextU.nil)
  go_simp
  refine (HST.out).mono ?_
  rintro e w5 ⟨v', rfl, ho5, hb5⟩
  obtain ⟨A5, k5, rfl, _⟩ := own_sh ho5
  have HB5 : Hid (Below w.heap.size w w5) := hide (HB4.out.trans (hb5.mono HB4.out.size))
  have HO5 : Hid (w5.ownsRow w3.heap.size 3 1 (.slice A3 b.length k3) b.length ((ordK κB b).map (Value.int .i64)) ∧ w5.ownsRow w4.heap.size 3 1 (.slice A5 s.length k5) s.length ((ordK κS s).map (Value.int .i64))) := hide ⟨own_below HO4.out hb5 (Nat.le_refl _), ho5⟩
  have h0 : w5.heap[w.heap.size]? = some (.cells #[.slice none 0 0, .slice none 0 0] 82) := by
    rw [hb5.block _ (Nat.lt_of_lt_of_le (lt_of_block H0.out) HF4.out.size), HF4.out.block _ (lt_of_block H0.out)]
    exact H0.out
  have h1 : w5.heap[w.heap.size + 1]? = some (.cells #[.slice none 0 0, .slice none 0 0] 82) := by
    rw [hb5.block _ (Nat.lt_of_lt_of_le (lt_of_block H1.out) HF4.out.size), HF4.out.block _ (lt_of_block H1.out)]
    exact H1.out
  have hS5 : w5.cell? ⟨w.heap.size + 1 + 1, 0, none⟩ = some (.func (.func 44) #[] #[]) := (hb5.cell (World.block_lt_of_cell? _ _ hS4)).trans hS4
  have HH0 := hide h0
  have HH1 := hide h1
  have hr0 : (ordK κB b).length = b.length := ordK_len _ _
  clear ho5 hb5 hS4 HST h0 h1 hHeld hr0
  go_wp2_with fail
  refine hK.out _ _ (fun _ => hS5) (fun hHeld => ?_)
  replace hHeld := hHeld (by decide)
  try simp only [Act.put, List.setIfInBounds_toArray, List.set_cons_zero, List.set_cons_succ]
  refine AnyU.next (js := [6]) (by kernel_rfl) (by simp) (NextU.cons rfl (fun K hK => ?_) NextU.nil)
  have y0 := cell_of_row w5 (w.heap.size) 0 _ _ (0, 0) HH0.out
  have y1 := cell_of_row w5 (w.heap.size) 1 _ _ (0, 0) HH0.out
  have y2 : ∀ i, w5.frozen? ⟨w.heap.size, i, none⟩ = false := fun i => frozen_of_row w5 (w.heap.size) i _ _ HH0.out
  simp only [List.getElem?_toArray, List.getElem?_cons_zero, List.getElem?_cons_succ] at y0 y1
  go_wp2_with fail
  refine hK.out _ _ (fun _ => by go_simp) (fun hHeld => ?_)
  replace hHeld := hHeld (by decide)
  try simp only [Act.put, List.setIfInBounds_toArray, List.set_cons_zero, List.set_cons_succ]
  refine AnyU.next (js := [7]) (by kernel_rfl) (by simp) (NextU.cons rfl (fun K hK => ?_) NextU.nil)
  have z0 := cell_of_row w5 (w.heap.size + 1) 0 _ _ (0, 0) HH1.out
  have z1 := cell_of_row w5 (w.heap.size + 1) 1 _ _ (0, 0) HH1.out
  have z2 : ∀ i, w5.frozen? ⟨w.heap.size + 1, i, none⟩ = false := fun i => frozen_of_row w5 (w.heap.size + 1) i _ _ HH1.out
  simp only [List.getElem?_toArray, List.getElem?_cons_zero, List.getElem?_cons_succ] at z0 z1
  go_wp2_with fail
  refine hK.out _ _ (fun _ => by go_simp) (fun hHeld => ?_)
  replace hHeld := hHeld (by decide)
  try simp only [Act.put, List.setIfInBounds_toArray, List.set_cons_zero, List.set_cons_succ]
  refine AnyU.over (by kernel_rfl) ?_ _
  go_wp2_with fail
  have hl0 : w.heap.size + 1 < w3.heap.size := lt_of_block H1.out
  have hf : ∀ {W : World} {p i : Nat} {u : Value} {e size n B : Nat} {x : Value} {xs : List Value}, p < B → W.ownsRow B e size x n xs → (W.setCell ⟨p, i, none⟩ u).ownsRow B e size x n xs :=
    fun {W p i u e size n B x xs} hp h => ownsRow_setCell_other h (fun e => by have h7 : B ≤ p := (h.lt _ e).1; omega) _
  refine bodyPost_ret (v := .tuple #[.agg #[.slice A b.length c, .slice A3 b.length k3], .agg #[.slice A' s.length c', .slice A5 s.length k5]]) (by simp [results, Try.results39, go_sem, y0, y1, z0, z1]) rfl ?_
  refine ⟨_, _, rfl, own_base (hf (by omega) (hf (by omega) (hf (by omega) (hf (by omega) HO5.out.1)))) (by omega), own_base (hf (by have := HF4.out.size; omega) (hf (by have := HF4.out.size; omega) (hf (by have := HF4.out.size; omega) (hf (by have := HF4.out.size; omega) HO5.out.2)))) (by have := HF4.out.size; omega), ?_⟩
  refine Below.setCell (Below.setCell (Below.setCell (Below.setCell HB5.out ?_ _) ?_ _) ?_ _) ?_ _ <;> (show w.heap.size ≤ _; simp)
end Go.Proofs.Ytogicdljbnllgaa
