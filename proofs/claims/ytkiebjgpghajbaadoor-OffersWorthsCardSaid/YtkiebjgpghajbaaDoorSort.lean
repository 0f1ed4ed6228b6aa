/- The library's sort at a row of offers: what it leaves is the same offers, by goods. -/
import Derived.Test.YtkiebjgpghajbaaDoorLaySort
import Derived.Test.YtkiebjgpghajbaaDoorOffC
namespace Go.Proofs.YtkiebjgpghajbaaDoor
open Go Go.Proofs Go.Shelf Go.RowKit
open Go.Sort (flatK get_flatK HoldsK size_flatK)

def encO (o : Offer) : List Value := [.int .u32 (o.1 : Int), .int .i64 o.2]
def cfO (x y : Offer) : Int := sgnI (x.1 : Int) (y.1 : Int)
theorem ltO (x y : Offer) : ltOf cfO x y = decide (x.1 < y.1) := by
  unfold ltOf cfO sgnI
  by_cases h1 : x.1 < y.1
  · simp [h1]
  · rw [if_neg (by omega)]
    by_cases h2 : y.1 < x.1
    · simp [h1, h2]
    · simp [h1, h2]
theorem swoO : Go.Sort.SWO (ltOf cfO) where
  irrefl x := by rw [ltO]; simp
  trans x y z h1 h2 := by rw [ltO] at *; simp at *; omega
  ntrans x y z h1 h2 := by rw [ltO] at *; simp at *; omega
theorem flatO (d : Array Offer) : (flatK encO 2 d).toList = cells2 offV d.toList := by
  apply List.ext_getElem?
  intro t
  by_cases ht : t < d.size * 2
  · have hs : t < (flatK encO 2 d).size := by simpa using ht
    have h1 := get_flatK encO 2 d t ht
    rw [getElem!_pos _ t hs] at h1
    rw [Array.getElem?_toList, Array.getElem?_eq_getElem hs, h1]
    have hd : t / 2 < d.size := by omega
    rw [getElem!_pos d _ hd]
    have h2 := cells2_at (f := offV) d.toList (t / 2) d[t / 2] (by rw [Array.getElem?_toList, Array.getElem?_eq_getElem hd])
    rcases Nat.mod_two_eq_zero_or_one t with h3 | h3
    · have h4 : t = t / 2 * 2 := by omega
      rw [h3]
      have := h2.1
      rw [← h4] at this
      rw [this]
      rfl
    · have h4 : t = t / 2 * 2 + 1 := by omega
      rw [h3]
      have := h2.2
      rw [← h4] at this
      rw [this]
      rfl
  · rw [List.getElem?_eq_none (by simp; omega), List.getElem?_eq_none (by rw [cells2_length]; simp; omega)]
theorem heap_put {w : World} {g n : Nat} {os : Array Obj} {cur : Array Value} {e : TypeId} {fr : Nat × Nat} (F : Array Value) (hb : w.heap[g]? = some (.cells cur e fr)) :
    (Go.Sort.grow (Go.Sort.putRow id (Go.Sort.ahead w n) g 0 F) os).heap[g]? = some (.cells (Go.Sort.putCells id 0 F cur) e fr) := by
  have hg : g < w.heap.size := (Array.getElem?_eq_some_iff.1 hb).1
  rw [Go.Sort.heap_grow_old _ _ (by simpa using hg)]
  simp [Go.Sort.putRow, Go.Sort.mapBlock, Go.Sort.ahead, Array.getElem?_modify, hb, Go.Sort.onCells]
theorem grown_put {w : World} {g n : Nat} {os : Array Obj} (F : Array Value) : w.grownBy (Go.Sort.grow (Go.Sort.putRow id (Go.Sort.ahead w n) g 0 F) os) (some g) := by
  refine ⟨rfl, rfl, rfl, by simp, fun k hk hne => ?_⟩
  rw [Go.Sort.heap_grow_old _ _ (by simpa using hk)]
  have : g ≠ k := fun e => hne (by rw [e])
  simp [Go.Sort.putRow, Go.Sort.mapBlock, Go.Sort.ahead, Array.getElem?_modify, this]
theorem take_put (cur F : Array Value) (h : F.size ≤ cur.size) : (Go.Sort.putCells id 0 F cur).toList.take F.size = F.toList := by
  apply List.ext_getElem?
  intro j
  by_cases hj : j < F.size
  · rw [List.getElem?_take_of_lt hj, Array.getElem?_toList]
    simp [Go.Sort.putCells, hj, show j < cur.size by omega]
  · rw [List.getElem?_take_eq_none (by omega), List.getElem?_eq_none (by simp; omega)]

theorem sortO_any {w : World} {base g c : Nat} {out : List Offer} (hown : w.ownsRow base 67 2 (.slice (some ⟨g, 0, none⟩) out.length c) out.length (cells2 offV out)) (hl : out.length ≤ 1000000) :
    Calls Tryd.prog 55 #[.slice (some ⟨g, 0, none⟩) out.length c, .func (.func 56) #[] #[]] w fun e w' => e = .returned (.tuple #[]) ∧
      ∃ d : List Offer, d.Perm out ∧ d.Pairwise (fun a b => a.1 ≤ b.1) ∧ w'.ownsRow base 67 2 (.slice (some ⟨g, 0, none⟩) out.length c) out.length (cells2 offV d) ∧ w.grownBy w' (some g) := by
  rcases hown.2 with ⟨h0, _⟩ | ⟨g', cap, cur, hv, hbase, hb, hn, hcap, hsz, hcur⟩
  · cases h0
  cases hv
  have hg : g < w.heap.size := (Array.getElem?_eq_some_iff.1 hb).1
  have hfl : (flatK encO 2 out.toArray).toList = cells2 offV out := by rw [flatO]
  have hH : HoldsK encO 2 w g 0 out.toArray := by
    intro t ht
    have ht2 : t < out.length * 2 := by simpa using ht
    refine ⟨?_, by simp [World.frozen?, hb]⟩
    have h1 : (cur.toList.take (out.length * 2))[t]? = (cells2 offV out)[t]? := by rw [hcur]
    rw [List.getElem?_take_of_lt ht2, ← hfl, Array.getElem?_toList, Array.getElem?_toList, Array.getElem?_eq_getElem ht] at h1
    rw [getElem!_pos _ t ht]
    simp only [World.cell?, hb, Nat.zero_add, Option.isSome_none, Bool.false_eq_true, if_false]
    exact h1
  have eg : ∀ args w, (callFunc 56 args).run Tryd.prog w = .ok (.enter 56 args) w := enters_of Tryd.func56 (by kernel_rfl) rfl
  have hcmp : CmpLays Tryd.prog 56 #[] encO 2 cfO g 0 out.toArray.size w := fun _ _ _ _ x y => byGoods_any x y _
  have hcon := AnyQ.slices_SortFunc sortLaid 2 Tryd.isAgg67 Tryd.sizeOf67 encO (fun _ => rfl) (fun x v hv => by simp [encO] at hv; rcases hv with rfl | rfl <;> rfl) cfO swoO 56 #[] g 0 c out.toArray w eg hcmp hH hg (by simp; omega)
  change Calls Tryd.prog 55 _ _ _ at hcon
  refine hcon.mono ?_
  rintro e w' ⟨he, d', n, os, hp, hs, hw⟩
  have hsz' : d'.size = out.length := by simpa using hp.1
  have hperm : d'.toList.Perm out := by
    have h := hp.2.2
    rw [Array.extract_eq_self_of_le (by simp [hsz']), Array.extract_eq_self_of_le (Nat.le_refl _)] at h
    simpa using h
  refine ⟨he, d'.toList, hperm, ?_, ?_, ?_⟩
  · rw [List.pairwise_iff_getElem]
    intro i j hi hj hij
    have hi' : i < d'.size := by simpa using hi
    have hj' : j < d'.size := by simpa using hj
    have h := hs i j (Nat.zero_le _) hij (by simp; omega)
    rw [ltO, getElem!_pos d' _ hj', getElem!_pos d' _ hi'] at h
    simp only [decide_eq_false_iff_not, Nat.not_lt] at h
    simpa using h
  · subst hw
    have hfd : (flatK encO 2 d').toList = cells2 offV d'.toList := flatO d'
    have hfs : (flatK encO 2 d').size = out.length * 2 := by simp [hsz']
    refine ⟨by rw [cells2_length]; simp [hsz'], .inr ⟨g, c, Go.Sort.putCells id 0 (flatK encO 2 d') cur, rfl, hbase, heap_put _ hb, hn, hcap, by simp [Go.Sort.putCells, hsz], ?_⟩⟩
    rw [← hfd, ← hfs]
    exact take_put cur _ (by rw [hfs, hsz]; omega)
  · subst hw
    exact grown_put _
end Go.Proofs.YtkiebjgpghajbaaDoor
