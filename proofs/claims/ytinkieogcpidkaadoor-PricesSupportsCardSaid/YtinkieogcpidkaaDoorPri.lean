/- Prices: what sets cost, what offers gain, the bound of a part: plain; and the walk of prices.laid. -/
import Derived.Test.YtinkieogcpidkaaDoorRefChoice
import Derived.Laws.CopyOwn
import Derived.Deep.WholeRow
import Derived.ChangeKeysEq
namespace Go.Proofs.YtinkieogcpidkaaDoor
open Go.RowKit Go.Maps Go.Shelf
open Go.ChangeMaps Go.WideMaps

/-- What a set costs: good by good, rising. -/
def addC (cnt : Nat → Int) (xs : List (Fin 32)) : Int := xs.foldl (fun s x => IntKind.i64.wrap (s + cnt x.val)) 0
theorem addC_snoc (cnt : Nat → Int) (xs : List (Fin 32)) (x : Fin 32) : addC cnt (xs ++ [x]) = IntKind.i64.wrap (addC cnt xs + cnt x.val) := by unfold addC; rw [List.foldl_append]; rfl
def costC (cnt : Nat → Int) (g : Nat) : Int := addC cnt (eachF 33 g)
/-- What a buyer gains, by which offer, of the first k. -/
def gainK (cnt : Nat → Int) (free : Nat) (l : List Offer) : Nat → Int × Int
  | 0 => (0, -1)
  | k + 1 => match l[k]? with
    | none => gainK cnt free l k
    | some o => if withinB o.1 free = true ∧ (gainK cnt free l k).1 < IntKind.i64.wrap (o.2 - costC cnt o.1) then (IntKind.i64.wrap (o.2 - costC cnt o.1), (k : Int)) else gainK cnt free l k
def gainC (cnt : Nat → Int) (free : Nat) (l : List Offer) : Int × Int := gainK cnt free l l.length
theorem gain_hit {cnt : Nat → Int} {free : Nat} {l : List Offer} {k : Nat} {o : Offer} (ho : l[k]? = some o) (hw : withinB o.1 free = true) (hx : (gainK cnt free l k).1 < IntKind.i64.wrap (o.2 - costC cnt o.1)) :
    gainK cnt free l (k + 1) = (IntKind.i64.wrap (o.2 - costC cnt o.1), (k : Int)) := by simp only [gainK, ho]; rw [if_pos ⟨hw, hx⟩]
theorem gain_miss {cnt : Nat → Int} {free : Nat} {l : List Offer} {k : Nat} {o : Offer} (ho : l[k]? = some o) (h : ¬ (withinB o.1 free = true ∧ (gainK cnt free l k).1 < IntKind.i64.wrap (o.2 - costC cnt o.1))) :
    gainK cnt free l (k + 1) = gainK cnt free l k := by simp only [gainK, ho]; rw [if_neg h]
/-- The bound of a part, by its first n buyers from k on. -/
def restK (cnt : Nat → Int) (free : Nat) (ls : List (List Offer)) (k : Nat) : Nat → Int
  | 0 => costC cnt free
  | n + 1 => match ls[k + n]? with
    | none => restK cnt free ls k n
    | some l => IntKind.i64.wrap (restK cnt free ls k n + (gainC cnt free l).1)
def restC (cnt : Nat → Int) (free : Nat) (ls : List (List Offer)) (k : Nat) : Int := restK cnt free ls k (ls.length - k)
theorem rest_some {cnt : Nat → Int} {free : Nat} {ls : List (List Offer)} {k n : Nat} {l : List Offer} (h : ls[k + n]? = some l) :
    restK cnt free ls k (n + 1) = IntKind.i64.wrap (restK cnt free ls k n + (gainC cnt free l).1) := by simp only [restK, h]
/-- Prices as they lie on a board. -/
def cntP (p : List Int) (j : Nat) : Int := p.getD j 0
def badP (x : Int) : Bool := decide (x < 0) || decide (1099511627776 < x)
/-- What is wrong with an instance and prices. -/
def priE (n : Int) (ls : List (List Offer)) (p : List Int) : Int :=
  if instE n ls ≠ 0 then instE n ls else if (p.length : Int) ≠ n then 2 else if p.any badP then 2 else 0
/-- A part's bound, or the refusal. -/
def restE (n : Int) (ls : List (List Offer)) (k : Int) (free : Nat) (p : List Int) : Int × Int :=
  if priE n ls p ≠ 0 then (0, priE n ls p) else if k < 0 ∨ (ls.length : Int) < k ∨ withinB free (allI n) = false then (0, 2) else (restC (cntP p) free ls k.toNat, 0)

/-- A board's cells. -/
theorem row_load {W : World} {g : Nat} {cnt : Nat → Int} (h : W.heap[g]? = some (.cells (rowC cnt) 76 (0, 0))) : W.cell? ⟨g, 0, none⟩ = some (.int .i64 (cnt 0)) := by
  rw [cell_of_row W g 0 _ _ (0, 0) h, rowC_at _ (by omega)]
theorem rowC_size (cnt : Nat → Int) : (rowC cnt).size = 32 := by simp [rowC]
theorem rowC_one (cnt : Nat → Int) : (rowC cnt).all (·.oneCell') = true := by
  rw [Array.all_eq_true]
  intro i hi
  simp [rowC]
  rfl
theorem bUnd : Tryd.prog.underlying 76 = some (.array 32 2) := by kernel_rfl
theorem bInfo : (Tryd.prog.info? 76).map (·.size) = some 32 := by kernel_rfl
theorem zeroC : (#[.int .i64 0, .int .i64 0, .int .i64 0, .int .i64 0, .int .i64 0, .int .i64 0, .int .i64 0, .int .i64 0, .int .i64 0, .int .i64 0, .int .i64 0, .int .i64 0, .int .i64 0, .int .i64 0, .int .i64 0, .int .i64 0, .int .i64 0, .int .i64 0, .int .i64 0, .int .i64 0, .int .i64 0, .int .i64 0, .int .i64 0, .int .i64 0, .int .i64 0, .int .i64 0, .int .i64 0, .int .i64 0, .int .i64 0, .int .i64 0, .int .i64 0, .int .i64 0] : Array Value) = rowC (fun _ => 0) := rfl
theorem splice_row (p : List Int) : (((p.take 32).map (Value.int .i64)) ++ (rowC (fun _ => 0)).toList.drop (p.take 32).length).toArray = rowC (cntP p) := by
  unfold rowC
  congr 1
  apply List.ext_getElem?
  intro i
  rw [List.getElem?_append, List.length_map]
  by_cases hi : i < (p.take 32).length
  · rw [if_pos hi]
    rw [List.length_take] at hi
    have h1 : i < p.length := by omega
    have h2 : i < 32 := by omega
    rw [List.getElem?_map, List.getElem?_take, if_pos h2, List.getElem?_eq_getElem h1]
    simp [h2, cntP, h1]
  · rw [if_neg hi]
    rw [List.length_take] at hi ⊢
    rw [List.getElem?_drop, show min 32 p.length + (i - min 32 p.length) = i by omega]
    by_cases h2 : i < 32
    · have h1 : p.length ≤ i := by omega
      simp [h2, cntP, h1]
    · simp [h2]

def BoardPost (cnt : Nat → Int) (w : World) (e : Ending) (w' : World) : Prop := e = .returned (.agg (rowC cnt)) ∧ Below w.heap.size w w'
theorem int_cells (p : List Int) : ∀ v ∈ (p.take 32).map (Value.int .i64), v.oneCell' = true := fun v hv => by
  obtain ⟨x, _, rfl⟩ := List.mem_map.1 hv
  rfl
set_option maxRecDepth 100000 in
set_option maxHeartbeats 2000000 in
theorem laid_any (A : Option Addr) (c : Nat) (p : List Int) (w : World) (h : One intV w w.heap.size A p) (hl : p.length ≤ 1000000) (hz : A = none → c = 0) :
    Calls Tryd.prog 37 #[.slice A p.length c] w (BoardPost (cntP p) w) := by
  have HA := hide h
  have HSP := hide (splice_row p)
  have HIC := hide (int_cells p)
  clear h
  go_enter Tryd.func37, Tryd.ntmps37
  go_upto_region 2 with fail
  rw [zeroC]
  have HB1 : Hid (Below w.heap.size w ((w.alloc (.cells (rowC fun _ => 0) 76)).alloc (.cells (rowC fun _ => 0) 76))) := hide (((Below.refl _ _).alloc (Nat.le_refl _) _).alloc (by simp) _)
  have HX0 : Hid (((w.alloc (.cells (rowC fun _ => 0) 76)).alloc (.cells (rowC fun _ => 0) 76)).heap[w.heap.size]? = some (.cells (rowC fun _ => 0) 76 (0, 0))) := hide ((Below.heap_alloc _ _ _ (by simp)).trans (heap_alloc_new w _))
  have HX1 : Hid (((w.alloc (.cells (rowC fun _ => 0) 76)).alloc (.cells (rowC fun _ => 0) 76)).heap[w.heap.size + 1]? = some (.cells (rowC fun _ => 0) 76 (0, 0))) := hide (by
    have := heap_alloc_new (w.alloc (.cells (rowC fun _ => 0) 76)) (.cells (rowC fun _ => 0) 76)
    simpa using this)
  generalize (w.alloc (.cells (rowC fun _ => 0) 76)).alloc (.cells (rowC fun _ => 0) 76) = w1 at *
  have HU := hide Tryd.underlying29
  rcases Nat.eq_zero_or_pos p.length with h0 | h0
  · have HP : Hid (cntP p = fun _ => 0) := hide (by rw [List.eq_nil_of_length_eq_zero h0]; rfl)
    rw [h0]
    go_wp2_with (first
      | (refine wpList_copy_nothing rfl (.tmp 4) (.tmp 5) 29 29 rfl 2 HU.out (by kernel_rfl) (some ⟨w.heap.size + 1, 0, none⟩) A 32 32 0 c rfl rfl rfl ?_)
      | (refine wpList_load_row rfl 76 (.tmp 3) rfl (w.heap.size + 1) rfl 76 (rowC fun _ => 0) (0, 0) _ HX1.out bUnd rfl (by rw [bInfo, rowC_size]) ?_)
      | (refine wpList_store_row rfl 76 (.tmp 2) (.tmp 7) rfl w.heap.size (rowC fun _ => 0) rfl rfl 76 (rowC fun _ => 0) HX0.out (by rw [bInfo, rowC_size]) rfl (rowC_one _) ?_))
    refine bodyPost_ret (v := .agg (rowC fun _ => 0)) (results_cell_row rfl _ _ w.heap.size 76 (rowC fun _ => 0) (0, 0) _ rfl (setRow_heap _ _ _ _ _ _ HX0.out) bUnd rfl (by rw [bInfo, rowC_size])) rfl ?_
    exact ⟨by rw [HP.out], below_setRow HB1.out (Nat.le_refl _) _⟩
  · obtain ⟨ab, ao, rfl, hab, hac⟩ := One.at_ HA.out h0
    have HSRC : Hid (∀ (j : Nat) v, ((p.take 32).map (Value.int .i64))[j]? = some v → w1.cell? ((⟨ab, ao, none⟩ : Addr).add j) = some v) := hide (fun j v hv => by
      rw [List.getElem?_map, List.getElem?_take] at hv
      split at hv
      · obtain ⟨x, hx, rfl⟩ := Option.map_eq_some_iff.1 hv
        have hadd : (⟨ab, ao, none⟩ : Addr).add j = ⟨ab, ao + j, none⟩ := by unfold Addr.add; split <;> simp_all
        rw [hadd]
        exact (HB1.out.cell (p := ⟨ab, ao + j, none⟩) hab).trans (hac j x hx)
      · cases hv)
    have HN : Hid (((p.take 32).map (Value.int .i64)).length = Nat.min p.length 32) := hide (by rw [List.length_map, List.length_take, Nat.min_comm])
    have HFT : Hid (0 + ((p.take 32).map (Value.int .i64)).length ≤ (rowC fun _ => 0).size) := hide (by rw [rowC_size, List.length_map, List.length_take]; omega)
    have HSP' : Hid (((rowC fun _ => 0).toList.take 0 ++ ((p.take 32).map (Value.int .i64) ++ (rowC fun _ => 0).toList.drop (0 + ((p.take 32).map (Value.int .i64)).length))).toArray = rowC (cntP p)) := hide (by
      rw [List.take_zero, List.nil_append, Nat.zero_add, List.length_map]
      exact HSP.out)
    have HY1 := hide (setRow_heap w1 (w.heap.size + 1) _ (rowC (cntP p)) _ _ HX1.out)
    have HY0 : Hid ((w1.setRow (w.heap.size + 1) (rowC (cntP p))).heap[w.heap.size]? = some (.cells (rowC fun _ => 0) 76 (0, 0))) := hide ((setRow_other w1 (w.heap.size + 1) w.heap.size _ (by omega)).trans HX0.out)
    have HB2 := hide (below_setRow HB1.out (Nat.le_succ w.heap.size) (rowC (cntP p)))
    clear hac
    go_wp2_with (first
      | (refine wpList_copy_own rfl (.tmp 4) (.tmp 5) 29 29 rfl 2 HU.out (by kernel_rfl) (w.heap.size + 1) 0 32 32 ⟨ab, ao, none⟩ p.length c rfl rfl (rowC fun _ => 0) 76 HX1.out ((p.take 32).map (Value.int .i64)) HN.out HSRC.out HFT.out HIC.out ?_; rw [HSP'.out]; generalize w1.setRow (w.heap.size + 1) (rowC (cntP p)) = w2 at *)
      | (refine wpList_load_row rfl 76 (.tmp 3) rfl (w.heap.size + 1) rfl 76 (rowC (cntP p)) (0, 0) _ HY1.out bUnd rfl (by rw [bInfo, rowC_size]) ?_)
      | (refine wpList_store_row rfl 76 (.tmp 2) (.tmp 7) rfl w.heap.size (rowC (cntP p)) rfl rfl 76 (rowC fun _ => 0) HY0.out (by rw [bInfo, rowC_size]) (by rw [rowC_size, rowC_size]) (rowC_one _) ?_))
    refine bodyPost_ret (v := .agg (rowC (cntP p))) (results_cell_row rfl _ _ w.heap.size 76 (rowC (cntP p)) (0, 0) _ rfl (setRow_heap _ _ _ _ _ _ HY0.out) bUnd rfl (by rw [bInfo, rowC_size])) rfl ?_
    exact ⟨rfl, below_setRow HB2.out (Nat.le_refl _) _⟩
end Go.Proofs.YtinkieogcpidkaaDoor
