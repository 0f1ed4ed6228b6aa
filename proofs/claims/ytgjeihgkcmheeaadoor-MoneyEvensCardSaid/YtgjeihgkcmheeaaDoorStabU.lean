/- The library's stable sort at a row of places of the call's own. -/
import Derived.Test.YtgjeihgkcmheeaaDoorStabS
namespace Go.Proofs.YtgjeihgkcmheeaaDoor
open Go.Shelf Go.RowKit Go.Lib Go.Sort Go.Proofs

def rangeI (n : Nat) : List Int := (List.range n).map fun (i : Nat) => (i : Int)
theorem rangeI_len (n : Nat) : (rangeI n).length = n := by simp [rangeI]
theorem heap_putI {w : World} {g n : Nat} {os : Array Obj} {cur : Array Value} {e : TypeId} {fr : Nat × Nat} (F : Array Int) (hb : w.heap[g]? = some (.cells cur e fr)) :
    (sortWorld (Value.int .i64) w g 0 n F os).heap[g]? = some (.cells (putCells (Value.int .i64) 0 F cur) e fr) := by
  have hg : g < w.heap.size := (Array.getElem?_eq_some_iff.1 hb).1
  unfold sortWorld
  rw [heap_grow_old _ _ (by simpa [putRow, mapBlock] using hg)]
  simp [putRow, mapBlock, Go.Sort.ahead, Array.getElem?_modify, hb, onCells]
theorem grown_putI {w : World} {g n : Nat} {os : Array Obj} (F : Array Int) : w.grownBy (sortWorld (Value.int .i64) w g 0 n F os) (some g) := by
  unfold sortWorld
  refine ⟨rfl, rfl, rfl, by simp [putRow, mapBlock], fun k hk hne => ?_⟩
  rw [heap_grow_old _ _ (by simpa [putRow, mapBlock] using hk)]
  have : g ≠ k := fun e => hne (by rw [e])
  simp [putRow, mapBlock, Go.Sort.ahead, Array.getElem?_modify, this]
theorem take_putI (cur : Array Value) (F : Array Int) (h : F.size ≤ cur.size) : (putCells (Value.int .i64) 0 F cur).toList.take F.size = F.toList.map (Value.int .i64) := by
  apply List.ext_getElem?
  intro j
  by_cases hj : j < F.size
  · rw [List.getElem?_take_of_lt hj, Array.getElem?_toList, List.getElem?_map, Array.getElem?_toList, Array.getElem?_eq_getElem hj]
    simp [putCells, hj, show j < cur.size by omega]
  · rw [List.getElem?_take_eq_none (by omega), List.getElem?_eq_none (by simp; omega)]
/-- A block apart from the sort's own reads as it did. -/
theorem cell_putI {w : World} {g n : Nat} {os : Array Obj} {F : Array Int} {b o : Nat} (hb : b ≠ g) (hl : b < w.heap.size) : (sortWorld (Value.int .i64) w g 0 n F os).cell? ⟨b, o, none⟩ = w.cell? ⟨b, o, none⟩ :=
  World.cell?_of_block ((grown_putI F).block b hl (fun e => hb (Option.some.inj e)))

/-- What the sort leaves of the places 0 to n - 1. -/
def sortedI (cf : Int → Int → Int) (n : Nat) : List Int := (rangeI n).mergeSort fun x y => !stb (ltOf cf) y x

def SortP (cf : Int → Int → Int) (base g c n : Nat) (w : World) (e : Ending) (w' : World) : Prop :=
  e = .returned (.tuple #[]) ∧ (sortedI cf n).length = n ∧ w'.ownsRow base 3 1 (.slice (some ⟨g, 0, none⟩) n c) n ((sortedI cf n).map (Value.int .i64)) ∧ w.grownBy w' (some g)

set_option maxHeartbeats 1000000 in
theorem sortI_any {w : World} {base g c n gf : Nat} {cb : Array Value} {cf : Int → Int → Int} (hO : SWO (ltOf cf)) (eg : ∀ args w, (callFunc gf args).run Tryd.prog w = .ok (.enter gf args) w) (hcmp : CmpV (fun x => 0 ≤ x ∧ x < n) gf cb cf g 0 n w)
    (hown : w.ownsRow base 3 1 (.slice (some ⟨g, 0, none⟩) n c) n ((rangeI n).map (Value.int .i64))) (hn : n ≤ 1000000) :
    Calls Tryd.prog 41 #[.slice (some ⟨g, 0, none⟩) n c, .func (.func gf) #[] cb] w (SortP cf base g c n w) := by
  rcases hown.2 with ⟨h0, _⟩ | ⟨g', cap, cur, hv, hbase, hb, hnc, hcap, hsz, hcur⟩
  · cases h0
  cases hv
  have hg : g < w.heap.size := (Array.getElem?_eq_some_iff.1 hb).1
  obtain ⟨d, hd⟩ : ∃ d, d = (rangeI n).toArray := ⟨_, rfl⟩
  have hdz : d.size = n := by rw [hd]; simp [rangeI]
  have hdi : ∀ i, i < d.size → d[i]! = (i : Int) := fun i hi => by
    rw [getElem!_pos d i hi]
    subst hd
    simp [rangeI]
  have hH : Holds (Value.int .i64) w g 0 d := by
    intro t ht
    refine ⟨?_, by simp [World.frozen?, hb]⟩
    have h1 : (cur.toList.take (n * 1))[t]? = ((rangeI n).map (Value.int .i64))[t]? := by rw [hcur]
    rw [List.getElem?_take_of_lt (by omega), List.getElem?_map] at h1
    have h2 : (rangeI n)[t]? = some (t : Int) := by
      unfold rangeI
      rw [List.getElem?_map, List.getElem?_range (by omega)]
      rfl
    rw [h2] at h1
    rw [hdi t ht]
    simp only [World.cell?, hb, Nat.zero_add, Option.isSome_none, Bool.false_eq_true, if_false]
    rw [← Array.getElem?_toList]
    exact h1
  have hst := stable_any cf hO gf cb g 0 c d w eg (by rw [hdz]; exact hcmp) ⟨fun _ => rfl, hH, hg⟩ hdi (fun t ht => by rw [hdi t ht]; omega) (by omega)
  rw [hdz] at hst
  have HST := hide hst
  clear hst
  go_enter Tryd.func41, Tryd.ntmps41
  go_wp2_with fail
  refine (HST.out).mono ?_
  rintro e w' ⟨rfl, d', ⟨m, os, hw⟩, hp, hs⟩
  have HW := hide hw
  have HP := hide hp
  have HS := hide hs
  clear hw hp hs
  go_wp2_with fail
  go_end0
  have hz : d'.size = n := by rw [HP.out.1, hdz]
  have hsr : d'.toList = sortedI cf n := by
    have h5 := sorted_unique_holds (stb_swo hO) (fun x y h1 h2 => stb_eq hO h1 h2) d d' HP.out HS.out
    rw [h5, hd]
    rfl
  refine ⟨rfl, by rw [← hsr]; simpa using hz, ?_, ?_⟩
  · rw [HW.out, ← hsr]
    refine ⟨by simp [hz], .inr ⟨g, c, putCells (Value.int .i64) 0 d' cur, rfl, hbase, heap_putI _ hb, hnc, hcap, by simp [putCells, hsz], ?_⟩⟩
    have := take_putI cur d' (by rw [hz, hsz]; omega)
    rw [hz] at this
    rw [Nat.mul_one]
    exact this
  · rw [HW.out]; exact grown_putI _

set_option maxHeartbeats 1000000 in
theorem insSort_none (gf : Nat) (cb : Array Value) (w : World) : Calls Tryd.prog 75 #[.slice none 0 0, .int .i64 0, .int .i64 0, .func (.func gf) #[] cb] w fun e w' => e = .returned (.tuple #[]) ∧ w = w' := by
  go_enter Tryd.func75, Tryd.ntmps75
  go_wp2
  refine wp_loop_rounds 1 ?_
  rw [rounds_succ]
  go_wp2
  go_end0
  exact ⟨rfl, rfl⟩
set_option maxHeartbeats 1000000 in
theorem stable_none (gf : Nat) (cb : Array Value) (w : World) : Calls Tryd.prog 62 #[.slice none 0 0, .int .i64 0, .func (.func gf) #[] cb] w fun e w' => e = .returned (.tuple #[]) ∧ w = w' := by
  have HI := hide (insSort_none gf cb w)
  go_enter Tryd.func62, Tryd.ntmps62
  go_wp2
  refine wp_loop_rounds 1 ?_
  rw [rounds_succ]
  go_wp2_with fail
  refine (HI.out).mono ?_
  rintro e _ ⟨rfl, rfl⟩
  go_wp2
  refine wp_loop_rounds 1 ?_
  rw [rounds_succ]
  go_wp2
  go_end0
  exact ⟨rfl, rfl⟩
set_option maxHeartbeats 1000000 in
theorem sort_none (gf : Nat) (cb : Array Value) (w : World) : Calls Tryd.prog 41 #[.slice none 0 0, .func (.func gf) #[] cb] w fun e w' => e = .returned (.tuple #[]) ∧ w = w' := by
  have HI := hide (stable_none gf cb w)
  go_enter Tryd.func41, Tryd.ntmps41
  go_wp2_with fail
  refine (HI.out).mono ?_
  rintro e _ ⟨rfl, rfl⟩
  go_wp2
  go_end0
  exact ⟨rfl, rfl⟩
end Go.Proofs.YtgjeihgkcmheeaaDoor
