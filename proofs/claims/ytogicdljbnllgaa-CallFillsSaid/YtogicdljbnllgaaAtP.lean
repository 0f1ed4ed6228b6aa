/- The walk of a side's at: what stands at a place in order. -/
import Derived.Test.YtogicdljbnllgaaSidesP
namespace Go.Proofs.Ytogicdljbnllgaa
open Go.Shelf Go.RowKit Go.Lib Go.Sort Go.Proofs

/-- What stands at a place: whose, for how many coins, how many. -/
def atV (l : List (Int × Int)) (o : List Int) (p : Nat) : Value :=
  match o[p]? with
  | none => .tuple #[.agg #[.int .i64 0, .int .i64 0], .int .i64 0, .bool false]
  | some who => match l[who.toNat]? with
    | none => .tuple #[.agg #[.int .i64 0, .int .i64 0], .int .i64 0, .bool false]
    | some x => .tuple #[.agg #[.int .i64 who, .int .i64 x.1], .int .i64 x.2, .bool true]
/-- Places that are ones of a list. -/
def InR (n : Nat) (o : List Int) : Prop := ∀ x ∈ o, 0 ≤ x ∧ x < (n : Int)

set_option maxRecDepth 100000 in
set_option maxHeartbeats 4000000 in
theorem at_any (A : Option Addr) (c : Nat) (l : List (Int × Int)) (O : Option Addr) (co : Nat) (o : List Int) (p : Nat) (w : World) (h : Wants w w.heap.size A l) (h' : Reads w w.heap.size 1 O o.length (o.map (Value.int .i64))) (hl : l.length ≤ 1000000) (ho : o.length ≤ 1000000) (hin : InR l.length o) (hp : p ≤ 1000000) :
    Calls Try.prog 40 #[.agg #[.slice A l.length c, .slice O o.length co], .int .i64 (p : Int)] w (ValPost (atV l o p) w) := by
  unfold atV
  have HB := hide (((Below.refl w.heap.size w).alloc (Nat.le_refl _) (.cells #[.slice A l.length c, .slice O o.length co] 82)).alloc (by simp) (.cells #[.int .i64 0, .int .i64 0] 68))
  by_cases hlt : p < o.length
  · have hpi : (p : Int) < (o.length : Int) := by omega
    obtain ⟨who, hwho⟩ : ∃ x, o[p]? = some x := ⟨o[p], List.getElem?_eq_getElem hlt⟩
    obtain ⟨hw0, hw1⟩ := hin who (List.mem_of_getElem? hwho)
    obtain ⟨k, rfl⟩ : ∃ i : Nat, who = i := ⟨who.toNat, by omega⟩
    have hk : k < l.length := by omega
    obtain ⟨x, hx⟩ : ∃ x, l[k]? = some x := ⟨l[k], List.getElem?_eq_getElem hk⟩
    obtain ⟨x1, x2⟩ := x
    simp only [hwho, Int.toNat_natCast, hx]
    obtain ⟨b, q, rfl, hbB, hcl⟩ := h.at_ (by omega)
    obtain ⟨bo, qo, rfl, hbo, hco⟩ := h'.2 (by omega)
    have co0 := hco p _ (by rw [List.getElem?_map, hwho]; rfl)
    obtain ⟨cx0, cx1⟩ := hcl k _ hx
    have d0 := (HB.out.cell (p := ⟨bo, qo + p, none⟩) hbo).trans co0
    have d1 := (HB.out.cell (p := ⟨b, q + k * 2, none⟩) hbB).trans cx0
    have d2 := (HB.out.cell (p := ⟨b, q + k * 2 + 1, none⟩) hbB).trans cx1
    have nb : b ≠ w.heap.size + 1 := by omega
    have HD := hide (And.intro d1 d2)
    clear hcl hco co0 cx0 cx1 d1 d2
    go_enter Try.func40, Try.ntmps40
    go_upto_region 4 with fail
    obtain ⟨h0, h1⟩ : ((w.alloc (.cells #[.slice (some ⟨b, q, none⟩) l.length c, .slice (some ⟨bo, qo, none⟩) o.length co] 82)).alloc (.cells #[.int .i64 0, .int .i64 0] 68)).heap[w.heap.size]? = some (.cells #[.slice (some ⟨b, q, none⟩) l.length c, .slice (some ⟨bo, qo, none⟩) o.length co] 82) ∧ ((w.alloc (.cells #[.slice (some ⟨b, q, none⟩) l.length c, .slice (some ⟨bo, qo, none⟩) o.length co] 82)).alloc (.cells #[.int .i64 0, .int .i64 0] 68)).heap[w.heap.size + 1]? = some (.cells #[.int .i64 0, .int .i64 0] 68) :=
      ⟨(Below.heap_alloc _ _ _ (by simp)).trans (heap_alloc_new w _), by simpa using heap_alloc_new (w.alloc (.cells #[.slice (some ⟨b, q, none⟩) l.length c, .slice (some ⟨bo, qo, none⟩) o.length co] 82)) (.cells #[.int .i64 0, .int .i64 0] 68)⟩
    have HH0 := hide h0
    have HH1 := hide h1
    clear h0 h1 d0
    generalize (w.alloc (.cells #[.slice (some ⟨b, q, none⟩) l.length c, .slice (some ⟨bo, qo, none⟩) o.length co] 82)).alloc (.cells #[.int .i64 0, .int .i64 0] 68) = w1 at *
    have hS0 : w1.cell? ⟨w.heap.size, 0, none⟩ = some (.slice (some ⟨b, q, none⟩) l.length c) ∧ w1.cell? ⟨b, q + k * 2, none⟩ = some (.int .i64 x1) ∧ w1.cell? ⟨b, q + k * 2 + 1, none⟩ = some (.int .i64 x2) := ⟨cell_of_row w1 _ 0 _ _ (0, 0) HH0.out, HD.out⟩
    refine wp_region_U 17 (fun W => W.cell? ⟨w.heap.size, 0, none⟩ = some (.slice (some ⟨b, q, none⟩) l.length c) ∧ W.cell? ⟨b, q + k * 2, none⟩ = some (.int .i64 x1) ∧ W.cell? ⟨b, q + k * 2 + 1, none⟩ = some (.int .i64 x2)) rfl hS0 (fun hHeld => ?_)
    refine AnyU.take (i := 0) (v := ?v201) rfl (by kernel_rfl) (by kernel_rfl) (by kernel_rfl) (by kernel_rfl) (fun _ _ _ h => h) (Or.inl ⟨by rfl, ?hy201⟩) hHeld ?r201
    case hy201 => (intro w hSw; (try dsimp only at hSw); go_simp <;> with_reducible rfl)
    simp only [Act.put, List.setIfInBounds_toArray, List.set_cons_zero, List.set_cons_succ]
    refine AnyU.take (i := 1) (v := ?v202) rfl (by kernel_rfl) (by kernel_rfl) (by kernel_rfl) (by kernel_rfl) (fun _ _ _ h => h) (Or.inl ⟨by rfl, ?hy202⟩) hHeld ?r202
    case hy202 => (intro w hSw; (try dsimp only at hSw); go_simp <;> with_reducible rfl)
    simp only [Act.put, List.setIfInBounds_toArray, List.set_cons_zero, List.set_cons_succ]
    refine AnyU.take (i := 2) (v := ?v203) rfl (by kernel_rfl) (by kernel_rfl) (by kernel_rfl) (by kernel_rfl) (fun _ _ _ h => h) (Or.inl ⟨by rfl, ?hy203⟩) hHeld ?r203
    case hy203 => (intro w hSw; (try dsimp only at hSw); go_simp <;> with_reducible rfl)
    simp only [Act.put, List.setIfInBounds_toArray, List.set_cons_zero, List.set_cons_succ]
    refine AnyU.take (i := 3) (v := ?v204) rfl (by kernel_rfl) (by kernel_rfl) (by kernel_rfl) (by kernel_rfl) (fun _ _ _ h => h) (Or.inl ⟨by rfl, ?hy204⟩) hHeld ?r204
    case hy204 => (intro w hSw; (try dsimp only at hSw); go_simp <;> with_reducible rfl)
    simp only [Act.put, List.setIfInBounds_toArray, List.set_cons_zero, List.set_cons_succ]
    refine AnyU.take (i := 4) (v := ?v205) rfl (by kernel_rfl) (by kernel_rfl) (by kernel_rfl) (by kernel_rfl) (fun _ _ _ h => h) (Or.inl ⟨by rfl, ?hy205⟩) hHeld ?r205
    case hy205 => (intro w hSw; (try dsimp only at hSw); go_simp <;> with_reducible rfl)
    simp only [Act.put, List.setIfInBounds_toArray, List.set_cons_zero, List.set_cons_succ]
    refine AnyU.take (i := 5) (v := ?v206) rfl (by kernel_rfl) (by kernel_rfl) (by kernel_rfl) (by kernel_rfl) (fun _ _ _ h => h) (Or.inl ⟨by rfl, ?hy206⟩) hHeld ?r206
    case hy206 => (intro w hSw; (try dsimp only at hSw); go_simp <;> with_reducible rfl)
    simp only [Act.put, List.setIfInBounds_toArray, List.set_cons_zero, List.set_cons_succ]
    refine AnyU.take (i := 6) (v := ?v207) rfl (by kernel_rfl) (by kernel_rfl) (by kernel_rfl) (by kernel_rfl) (fun _ _ _ h => h) (Or.inl ⟨by rfl, ?hy207⟩) hHeld ?r207
    case hy207 => (intro w hSw; (try dsimp only at hSw); go_simp <;> with_reducible rfl)
    simp only [Act.put, List.setIfInBounds_toArray, List.set_cons_zero, List.set_cons_succ]
    refine AnyU.take (i := 7) (v := ?v208) rfl (by kernel_rfl) (by kernel_rfl) (by kernel_rfl) (by kernel_rfl) (fun _ _ _ h => h) (Or.inl ⟨by rfl, ?hy208⟩) hHeld ?r208
    case hy208 => (intro w hSw; (try dsimp only at hSw); go_simp <;> with_reducible rfl)
    simp only [Act.put, List.setIfInBounds_toArray, List.set_cons_zero, List.set_cons_succ]
    refine AnyU.take (i := 8) (v := ?v209) rfl (by kernel_rfl) (by kernel_rfl) (by kernel_rfl) (by kernel_rfl) (fun _ _ _ h => h) (Or.inl ⟨by rfl, ?hy209⟩) hHeld ?r209
    case hy209 => (intro w hSw; (try dsimp only at hSw); go_simp <;> with_reducible rfl)
    simp only [Act.put, List.setIfInBounds_toArray, List.set_cons_zero, List.set_cons_succ]
    refine AnyU.take (i := 9) (v := ?v210) rfl (by kernel_rfl) (by kernel_rfl) (by kernel_rfl) (by kernel_rfl) (fun _ _ _ h => h) (Or.inl ⟨by rfl, ?hy210⟩) hHeld ?r210
    case hy210 => (intro w hSw; (try dsimp only at hSw); go_simp <;> with_reducible rfl)
    simp only [Act.put, List.setIfInBounds_toArray, List.set_cons_zero, List.set_cons_succ]
    refine AnyU.take (i := 10) (v := ?v211) rfl (by kernel_rfl) (by kernel_rfl) (by kernel_rfl) (by kernel_rfl) (fun _ _ _ h => h) (Or.inl ⟨by rfl, ?hy211⟩) hHeld ?r211
    case hy211 => (intro w hSw; (try dsimp only at hSw); go_simp <;> with_reducible rfl)
    simp only [Act.put, List.setIfInBounds_toArray, List.set_cons_zero, List.set_cons_succ]
    refine AnyU.take (i := 11) (v := ?v212) rfl (by kernel_rfl) (by kernel_rfl) (by kernel_rfl) (by kernel_rfl) (fun _ _ _ h => h) (Or.inl ⟨by rfl, ?hy212⟩) hHeld ?r212
    case hy212 => (intro w hSw; (try dsimp only at hSw); go_simp <;> with_reducible rfl)
    simp only [Act.put, List.setIfInBounds_toArray, List.set_cons_zero, List.set_cons_succ]
    refine AnyU.take (i := 12) (v := ?v213) rfl (by kernel_rfl) (by kernel_rfl) (by kernel_rfl) (by kernel_rfl) (fun _ _ _ h => h) (Or.inl ⟨by rfl, ?hy213⟩) hHeld ?r213
    case hy213 => (intro w hSw; (try dsimp only at hSw); go_simp <;> with_reducible rfl)
    simp only [Act.put, List.setIfInBounds_toArray, List.set_cons_zero, List.set_cons_succ]
    refine AnyU.take (i := 13) (v := ?v214) rfl (by kernel_rfl) (by kernel_rfl) (by kernel_rfl) (by kernel_rfl) (fun _ _ _ h => h) (Or.inl ⟨by rfl, ?hy214⟩) hHeld ?r214
    case hy214 => (intro w hSw; (try dsimp only at hSw); go_simp <;> with_reducible rfl)
    simp only [Act.put, List.setIfInBounds_toArray, List.set_cons_zero, List.set_cons_succ]
    refine AnyU.next (js := [14]) (by kernel_rfl) (by simp) (NextU.cons rfl (fun K hK => ?_) NextU.nil)
    have y0 := cell_of_row w1 (w.heap.size + 1) 0 _ _ (0, 0) HH1.out
    have y1 := cell_of_row w1 (w.heap.size + 1) 1 _ _ (0, 0) HH1.out
    have y2 : ∀ i, w1.frozen? ⟨w.heap.size + 1, i, none⟩ = false := fun i => frozen_of_row w1 (w.heap.size + 1) i _ _ HH1.out
    simp only [List.getElem?_toArray, List.getElem?_cons_zero, List.getElem?_cons_succ] at y0 y1
    have HS0 := hide hS0
    clear hHeld hS0
    go_wp2_with fail
    refine hK.out _ _ (fun _ => by have hS0 := HS0.out; go_simp) (fun hHeld => ?_)
    replace hHeld := hHeld (by decide)
    try simp only [Act.put, List.setIfInBounds_toArray, List.set_cons_zero, List.set_cons_succ]
    refine AnyU.take (i := 15) (v := ?v215) rfl (by kernel_rfl) (by kernel_rfl) (by kernel_rfl) (by kernel_rfl) (fun _ _ _ h => h) (Or.inl ⟨by rfl, ?hy215⟩) hHeld ?r215
    case hy215 => (intro w hSw; (try dsimp only at hSw); go_simp <;> with_reducible rfl)
    simp only [Act.put, List.setIfInBounds_toArray, List.set_cons_zero, List.set_cons_succ]
    refine AnyU.take (i := 16) (v := ?v216) rfl (by kernel_rfl) (by kernel_rfl) (by kernel_rfl) (by kernel_rfl) (fun _ _ _ h => h) (Or.inl ⟨by rfl, ?hy216⟩) hHeld ?r216
    case hy216 => (intro w hSw; (try dsimp only at hSw); go_simp <;> with_reducible rfl)
    simp only [Act.put, List.setIfInBounds_toArray, List.set_cons_zero, List.set_cons_succ]
    refine AnyU.over (by kernel_rfl) ?_ _
    go_wp2_with fail
    refine bodyPost_ret (v := .tuple #[.agg #[.int .i64 k, .int .i64 x1], .int .i64 x2, .bool true]) (by simp [results, Try.results40, go_sem, y0, y1]) rfl ⟨rfl, ?_⟩
    have hb9 : Below w.heap.size w ((w1.setCell ⟨w.heap.size + 1, 0, none⟩ (.int .i64 k)).setCell ⟨w.heap.size + 1, 1, none⟩ (.int .i64 x1)) := by
      refine Below.setCell (Below.setCell HB.out ?_ _) ?_ _ <;> (show w.heap.size ≤ _; simp)
    exact ⟨hb9.os, hb9.tape, hb9.output, hb9.size, hb9.block⟩
  · have hn : o[p]? = none := List.getElem?_eq_none (by omega)
    have hpi : ¬ (p : Int) < (o.length : Int) := by omega
    simp only [hn]
    go_enter Try.func40, Try.ntmps40
    go_wp2_with fail
    refine bodyPost_ret (v := .tuple #[.agg #[.int .i64 0, .int .i64 0], .int .i64 0, .bool false]) (by simp [results, Try.results40, go_sem]) rfl ⟨rfl, HB.out⟩
end Go.Proofs.Ytogicdljbnllgaa
