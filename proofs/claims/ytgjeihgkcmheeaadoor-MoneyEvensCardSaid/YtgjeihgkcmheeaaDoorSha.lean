/- The walk of money.Share. -/
import Derived.Test.YtgjeihgkcmheeaaDoorShaP
import Derived.Test.YtgjeihgkcmheeaaDoorDiv
import Derived.Test.YtgjeihgkcmheeaaDoorLnt
import Derived.Test.YtgjeihgkcmheeaaDoorUntil
import Derived.OwnWalk
namespace Go.Proofs.YtgjeihgkcmheeaaDoor
open Go.Shelf Go.RowKit Go.Lib Go.Sort Go.Proofs

def cellsF (K : IntKind) (f : Nat → Int) (n : Nat) : Array Value := ((rowF f n).map (Value.int K)).toArray
theorem cellsF_set (K : IntKind) (f : Nat → Int) (n k : Nat) (v : Int) : (cellsF K f n).setIfInBounds k (.int K v) = cellsF K (updF f k v) n := by
  unfold cellsF
  rw [List.setIfInBounds_toArray, ← List.map_set, rowF_set]
theorem cellsF_get {w : World} {g n k : Nat} {K : IntKind} {f : Nat → Int} {t : TypeId} (h : w.heap[g]? = some (.cells (cellsF K f n) t (0, 0))) (hk : k < n) : w.cell? ⟨g, k, none⟩ = some (.int K (f k)) := by
  have h1 := cell_of_row w g k _ t (0, 0) h
  rw [h1]
  unfold cellsF
  rw [List.getElem?_toArray, List.getElem?_map, rowF_get f hk]
  rfl
theorem made_f (K : IntKind) (N : Nat) : madeCells #[.int K 0] N = cellsF K (fun _ => 0) N := by
  unfold madeCells cellsF
  apply Array.ext_getElem?
  intro i
  simp only [List.getElem?_toArray, List.getElem?_map, Array.getElem?_map, Array.getElem?_range]
  by_cases h : i < N
  · rw [rowF_get _ h]; simp [h, Nat.mod_one]
  · rw [List.getElem?_eq_none (by rw [rowF_len]; omega)]; simp [h]
theorem info69 : EI Tryd.prog 69 (.int .u64 0) 1 8 := by unfold EI; kernel_rfl
theorem info3 : EI Tryd.prog 3 (.int .i64 0) 1 8 := by unfold EI; kernel_rfl
theorem make_k {t e : TypeId} {K : IntKind} (hE : EI Tryd.prog e (.int K 0) 1 8) (ht : Tryd.prog.underlying t = some (.slice e)) (N : Nat) (hN : N ≤ 1000000) (W : World) : (Instr.makeSlice t (.int .i64 (N : Int)) (.int .i64 (N : Int))).run Tryd.prog W = .ok (.slice (some ⟨W.heap.size, 0, none⟩) N N) (W.alloc (.cells (cellsF K (fun _ => 0) N) e)) := by
  obtain ⟨i0, hi, hz, hs, hb⟩ := info_parts hE
  have := run_make (P := Tryd.prog) W t e i0 _ ht hi hz .i64 .i64 (N : Int) (N : Int) (by omega) (Int.le_refl _) (by rw [hb]; omega) (by omega)
  have e1 : madeCells (Value.int K 0).cells N = cellsF K (fun _ => 0) N := made_f K N
  rw [Int.toNat_natCast, hs, Nat.mul_one, e1] at this
  exact this
/-- What Share holds: the shares, the rests in their box, the order. -/
structure ShW (w : World) (go gr gb gd n : Nat) (O R D : Nat → Int) (W : World) : Prop where
  bel : Below w.heap.size w W
  o : W.heap[go]? = some (.cells (cellsF .i64 O n) 2 (0, 0))
  r : W.heap[gr]? = some (.cells (cellsF .u64 R n) 69 (0, 0))
  b : W.heap[gb]? = some (.cells #[.slice (some ⟨gr, 0, none⟩) n n] 67 (0, 0))
  d : W.heap[gd]? = some (.cells (cellsF .i64 D n) 3 (0, 0))
  lo : w.heap.size ≤ go
  l1 : go < gr
  l2 : gr < gb
  l3 : gb < gd
section
variable {w W W' : World} {go gr gb gd n : Nat} {O R D : Nat → Int}
theorem ShW.below (h : ShW w go gr gb gd n O R D W) (hb : Below W.heap.size W W') : ShW w go gr gb gd n O R D W' :=
  ⟨h.bel.trans (hb.mono h.bel.size), (hb.block _ (lt_of_block h.o)).trans h.o, (hb.block _ (lt_of_block h.r)).trans h.r, (hb.block _ (lt_of_block h.b)).trans h.b, (hb.block _ (lt_of_block h.d)).trans h.d, h.lo, h.l1, h.l2, h.l3⟩
theorem ShW.setO (h : ShW w go gr gb gd n O R D W) (k : Nat) (v : Int) : ShW w go gr gb gd n (updF O k v) R D (W.setCell ⟨go, k, none⟩ (.int .i64 v)) := by
  have l1 := h.l1; have l2 := h.l2; have l3 := h.l3
  have far : ∀ {b : Nat}, b ≠ go → (W.setCell ⟨go, k, none⟩ (.int .i64 v)).heap[b]? = W.heap[b]? := fun hb => Below.heap_setCell W _ _ _ hb
  refine ⟨h.bel.setCell h.lo _, ?_, (far (by omega)).trans h.r, (far (by omega)).trans h.b, (far (by omega)).trans h.d, h.lo, h.l1, h.l2, h.l3⟩
  rw [setCell_block h.o k, cellsF_set]
theorem ShW.setR (h : ShW w go gr gb gd n O R D W) (k : Nat) (v : Int) : ShW w go gr gb gd n O (updF R k v) D (W.setCell ⟨gr, k, none⟩ (.int .u64 v)) := by
  have l0 := h.lo; have l1 := h.l1; have l2 := h.l2; have l3 := h.l3
  have far : ∀ {b : Nat}, b ≠ gr → (W.setCell ⟨gr, k, none⟩ (.int .u64 v)).heap[b]? = W.heap[b]? := fun hb => Below.heap_setCell W _ _ _ hb
  refine ⟨h.bel.setCell (by show w.heap.size ≤ gr; omega) _, (far (by omega)).trans h.o, ?_, (far (by omega)).trans h.b, (far (by omega)).trans h.d, h.lo, h.l1, h.l2, h.l3⟩
  rw [setCell_block h.r k, cellsF_set]
theorem ShW.setD (h : ShW w go gr gb gd n O R D W) (k : Nat) (v : Int) : ShW w go gr gb gd n O R (updF D k v) (W.setCell ⟨gd, k, none⟩ (.int .i64 v)) := by
  have l0 := h.lo; have l1 := h.l1; have l2 := h.l2; have l3 := h.l3
  have far : ∀ {b : Nat}, b ≠ gd → (W.setCell ⟨gd, k, none⟩ (.int .i64 v)).heap[b]? = W.heap[b]? := fun hb => Below.heap_setCell W _ _ _ hb
  refine ⟨h.bel.setCell (by show w.heap.size ≤ gd; omega) _, (far (by omega)).trans h.o, (far (by omega)).trans h.r, (far (by omega)).trans h.b, ?_, h.lo, h.l1, h.l2, h.l3⟩
  rw [setCell_block h.d k, cellsF_set]
theorem ShW.box (h : ShW w go gr gb gd n O R D W) : W.cell? ⟨gb, 0, none⟩ = some (.slice (some ⟨gr, 0, none⟩) n n) := cell_of_row W gb 0 _ _ (0, 0) h.b
theorem ShW.froz (h : ShW w go gr gb gd n O R D W) (k : Nat) : W.frozen? ⟨go, k, none⟩ = false ∧ W.frozen? ⟨gr, k, none⟩ = false ∧ W.frozen? ⟨gd, k, none⟩ = false := ⟨frozen_of_row W go k _ _ h.o, frozen_of_row W gr k _ _ h.r, frozen_of_row W gd k _ _ h.d⟩
theorem ShW.congr {O' R' D' : Nat → Int} (h : ShW w go gr gb gd n O R D W) (h1 : ∀ i, i < n → O i = O' i) (h2 : ∀ i, i < n → R i = R' i) (h3 : ∀ i, i < n → D i = D' i) : ShW w go gr gb gd n O' R' D' W := by
  obtain ⟨a, b, c, d, e, f, g, i, j⟩ := h
  unfold cellsF at b c e
  rw [rowF_congr h1] at b
  rw [rowF_congr h2] at c
  rw [rowF_congr h3] at e
  exact ⟨a, b, c, d, e, f, g, i, j⟩
theorem ShW.ownO (h : ShW w go gr gb gd n O R D W) (hn : n ≤ 1000000) : W.ownsRow w.heap.size 2 1 (.slice (some ⟨go, 0, none⟩) n n) n (intV (rowF O n)) :=
  ⟨by rw [intV_len, rowF_len, Nat.mul_one], .inr ⟨go, n, _, rfl, h.lo, h.o, Nat.le_refl _, by unfold maxLen; omega, by simp [cellsF, rowF_len], by
    unfold cellsF intV
    rw [Nat.mul_one, List.take_of_length_le (by simp [rowF_len])]⟩⟩
theorem ShW.ownD (h : ShW w go gr gb gd n O R D W) (hn : n ≤ 1000000) : W.ownsRow w.heap.size 3 1 (.slice (some ⟨gd, 0, none⟩) n n) n ((rowF D n).map (Value.int .i64)) :=
  ⟨by rw [List.length_map, rowF_len, Nat.mul_one], .inr ⟨gd, n, _, rfl, by have := h.lo; have := h.l1; have := h.l2; have := h.l3; omega, h.d, Nat.le_refl _, by unfold maxLen; omega, by simp [cellsF, rowF_len], by
    unfold cellsF
    rw [Nat.mul_one, List.take_of_length_le (by simp [rowF_len])]⟩⟩
end
/-- The new rows. -/
theorem ShW.start (w : World) (n : Nat) : ShW w w.heap.size (w.heap.size + 1) (w.heap.size + 1 + 1) (w.heap.size + 1 + 1 + 1) n (fun _ => 0) (fun _ => 0) (fun _ => 0)
    ((((w.alloc (.cells (cellsF .i64 (fun _ => 0) n) 2)).alloc (.cells (cellsF .u64 (fun _ => 0) n) 69)).alloc (.cells #[.slice (some ⟨w.heap.size + 1, 0, none⟩) n n] 67)).alloc (.cells (cellsF .i64 (fun _ => 0) n) 3)) := by
  refine ⟨((((Below.refl _ _).alloc (Nat.le_refl _) _).alloc (by simp) _).alloc (by simp; omega) _).alloc (by simp; omega) _, ?_, ?_, ?_, ?_, Nat.le_refl _, by omega, by omega, by omega⟩
  · rw [Below.heap_alloc _ _ _ (by simp; omega), Below.heap_alloc _ _ _ (by simp; omega), Below.heap_alloc _ _ _ (by simp)]
    exact heap_alloc_new w _
  · rw [Below.heap_alloc _ _ _ (by simp <;> omega), Below.heap_alloc _ _ _ (by simp)]
    have := heap_alloc_new (w.alloc (.cells (cellsF .i64 (fun _ => 0) n) 2)) (.cells (cellsF .u64 (fun _ => 0) n) 69)
    simpa using this
  · rw [Below.heap_alloc _ _ _ (by simp)]
    have := heap_alloc_new ((w.alloc (.cells (cellsF .i64 (fun _ => 0) n) 2)).alloc (.cells (cellsF .u64 (fun _ => 0) n) 69)) (.cells #[.slice (some ⟨w.heap.size + 1, 0, none⟩) n n] 67)
    simpa using this
  · have := heap_alloc_new (((w.alloc (.cells (cellsF .i64 (fun _ => 0) n) 2)).alloc (.cells (cellsF .u64 (fun _ => 0) n) 69)).alloc (.cells #[.slice (some ⟨w.heap.size + 1, 0, none⟩) n n] 67)) (.cells (cellsF .i64 (fun _ => 0) n) 3)
    simpa using this

set_option maxRecDepth 100000 in
set_option maxHeartbeats 2000000 in
theorem shCmp (r : Nat → Int) (gr gb n i j : Nat) (W : World) (hi : i < n) (hj : j < n) (hn : n ≤ 1000000) (c0 : W.cell? ⟨gb, 0, none⟩ = some (.slice (some ⟨gr, 0, none⟩) n n))
    (ci : W.cell? ⟨gr, i, none⟩ = some (.int .u64 (r i))) (cj : W.cell? ⟨gr, j, none⟩ = some (.int .u64 (r j))) :
    Calls Tryd.prog 42 #[.int .i64 (i : Int), .int .i64 (j : Int), .pointer (some ⟨gb, 0, none⟩)] W fun e w' => e = .returned (.int .i64 (cmpF r (i : Int) (j : Int))) ∧ ∃ q, w' = W.drewN q := by
  have hii : (i : Int) < (n : Int) := by omega
  have hjj : (j : Int) < (n : Int) := by omega
  have HR : Hid (cmpF r (i : Int) (j : Int) = if r j < r i then -1 else if r i < r j then 1 else 0) := hide (by unfold cmpF; rw [Int.toNat_natCast, Int.toNat_natCast])
  generalize r i = x at *
  generalize r j = y at *
  rcases Int.lt_trichotomy x y with h | h | h
  · rw [if_neg (by omega), if_pos h] at HR
    have h1 : ¬ y < x := by omega
    have h2 : decide (x > y) = false := decide_eq_false (by omega)
    go_enter Tryd.func42, Tryd.ntmps42
    go_wp2_with fail
    go_quiet (fail)
    go_wp2_with fail
    go_quiet (fail)
    go_wp2_with fail
    go_ret
    exact ⟨by rw [HR.out]; rfl, _, World.drewN_drewN _ _ _⟩
  · subst h
    rw [if_neg (by omega), if_neg (by omega)] at HR
    go_enter Tryd.func42, Tryd.ntmps42
    go_wp2_with fail
    go_quiet (fail)
    go_wp2_with fail
    go_quiet (fail)
    go_wp2_with fail
    go_ret
    exact ⟨by rw [HR.out]; rfl, _, World.drewN_drewN _ _ _⟩
  · rw [if_pos h] at HR
    have h2 : decide (x > y) = true := decide_eq_true h
    go_enter Tryd.func42, Tryd.ntmps42
    go_wp2_with fail
    go_quiet (fail)
    go_wp2
    go_ret
    exact ⟨by rw [HR.out]; rfl, _, rfl⟩
/-- A division of a product. -/
theorem div64_any (X y : Nat) (h0 : 0 < y) (hX : X / 18446744073709551616 < y) (hyy : y < 18446744073709551616) (w : World) : Calls Tryd.prog 40 #[.int .u64 ((X / 18446744073709551616 : Nat) : Int), .int .u64 ((X % 18446744073709551616 : Nat) : Int), .int .u64 y] w (DivQ X y w) := by
  have e := Nat.div_add_mod X 18446744073709551616
  by_cases h : X / 18446744073709551616 = 0
  · have h1 := div_low (X % 18446744073709551616) y h0 (Nat.mod_lt _ (by decide)) hyy w
    rw [h]
    rw [h] at e
    have e2 : X % 18446744073709551616 = X := by omega
    rw [e2] at h1 ⊢
    exact h1
  · have h1 := div_any (X / 18446744073709551616) (X % 18446744073709551616) y (by omega) hX (Nat.mod_lt _ (by decide)) hyy w
    have e2 : X / 18446744073709551616 * 18446744073709551616 + X % 18446744073709551616 = X := by omega
    rw [e2] at h1
    exact h1
theorem upd_to (F : Nat → Int) {k : Nat} {v : Int} (h : F k = v) (i : Nat) : updF (fun i => if i < k then F i else 0) k v i = if i < k + 1 then F i else 0 := by
  unfold updF
  by_cases hi : i = k
  · subst hi; rw [if_pos rfl, if_pos (by omega), h]
  · rw [if_neg hi]
    by_cases h2 : i < k
    · rw [if_pos (by omega)]; simp [h2]
    · rw [if_neg (by omega)]; simp [h2]
theorem q_bound {c s : Int} {ws : List Int} (h : allC ws = true) (hs : sumL ws = s) (h0 : 0 < s) (hc : 0 ≤ c) (i : Nat) (hi : i < ws.length) : 0 ≤ qF c s ws i ∧ qF c s ws i ≤ c := by
  obtain ⟨x, hx⟩ := get_of hi
  have hb := allC_get h hx
  have hxs : x ≤ s := by
    have h1 := sumL_take hx
    have h2 := sumL_pre h (i + 1)
    have h3 := (sumL_takeB h i).1
    omega
  have e : ws.getD i 0 = x := by rw [List.getD_eq_getElem?_getD, hx]; rfl
  unfold qF
  rw [e]
  refine ⟨Int.ediv_nonneg (Int.mul_nonneg hc hb.1) (by omega), ?_⟩
  have h1 : c * x ≤ c * s := Int.mul_le_mul_of_nonneg_left hxs hc
  have h2 := Int.ediv_le_ediv h0 h1
  rwa [Int.mul_ediv_cancel _ (by omega)] at h2
theorem sum_q {c s : Int} {ws : List Int} (h : allC ws = true) (hs : sumL ws = s) (h0 : 0 < s) (hc : 0 ≤ c) (k : Nat) (hk : k ≤ ws.length) : 0 ≤ sumL (rowF (qF c s ws) k) ∧ sumL (rowF (qF c s ws) k) ≤ c * k :=
  ⟨sum_rowF_nonneg (fun i hi => (q_bound h hs h0 hc i (by omega)).1), sum_rowF_le (fun i hi => (q_bound h hs h0 hc i (by omega)).2)⟩
theorem rangeI_row (n : Nat) : rowF (fun i => if i < n then (i : Int) else 0) n = rangeI n := by
  unfold rowF rangeI
  exact List.map_congr_left (fun i hi => by rw [List.mem_range] at hi; simp [hi])
theorem shF_zero (c s : Int) (ws : List Int) (i : Nat) : shF c s ws 0 i = qF c s ws i := by
  unfold shF served
  simp
theorem ord_get {r : Nat → Int} {n j : Nat} (hj : j < n) : ∃ e : Nat, (ordF r n)[j]? = some (e : Int) ∧ e < n := by
  have hl : j < (ordF r n).length := by rw [ordF_len]; exact hj
  have hm : (ordF r n)[j] ∈ ordF r n := List.getElem_mem hl
  rw [ordF_mem] at hm
  exact ⟨(ordF r n)[j].toNat, by rw [List.getElem?_eq_getElem hl, Int.toNat_of_nonneg hm.1], by omega⟩
theorem not_taken {l : List Int} (h : l.Nodup) {j : Nat} {e : Int} (he : l[j]? = some e) : e ∉ l.take j := by
  intro hm
  obtain ⟨i, hi, h2⟩ := List.getElem_of_mem hm
  rw [List.length_take] at hi
  rw [List.getElem_take] at h2
  obtain ⟨hj, h3⟩ := List.getElem?_eq_some_iff.1 he
  have := (List.getElem_inj h).1 (h2.trans h3.symm)
  omega
theorem shF_step {c s : Int} {ws : List Int} {j e : Nat} (he : (ordF (rF c s ws) ws.length)[j]? = some (e : Int)) :
    shF c s ws j e = qF c s ws e ∧ ∀ i, updF (shF c s ws j) e (shF c s ws j e + 1) i = shF c s ws (j + 1) i := by
  have hn := not_taken (ordF_nodup _ _) he
  have h0 : shF c s ws j e = qF c s ws e := by
    unfold shF served
    rw [decide_eq_false hn]
    simp
  refine ⟨h0, fun i => ?_⟩
  unfold updF
  by_cases hi : i = e
  · subst hi
    rw [if_pos rfl, h0]
    unfold shF served
    rw [List.take_add_one, he, decide_eq_true (by simp)]
    simp
  · rw [if_neg hi]
    unfold shF served
    rw [List.take_add_one, he]
    have : ((i : Int) ∈ (ordF (rF c s ws) ws.length).take j ++ (some (e : Int)).toList) ↔ (i : Int) ∈ (ordF (rF c s ws) ws.length).take j := by
      simp only [Option.toList_some, List.mem_append, List.mem_singleton]
      constructor
      · rintro (h | h)
        · exact h
        · exact absurd (by omega) hi
      · exact .inl
    rw [decide_eq_decide.2 this]
/-- What Share leaves. -/
def shareOK (c : Int) (ws : List Int) : Bool := (totR ws).2 && !((totR ws).1 == 0) && isC c
def shareL (c : Int) (ws : List Int) : List Int := rowF (shF c (sumL ws) ws (leftF c (sumL ws) ws).toNat) ws.length
def ShareP (c : Int) (ws : List Int) (w : World) (e : Ending) (w' : World) : Prop :=
  Below w.heap.size w w' ∧ ((shareOK c ws = false ∧ e = .returned (.tuple #[.slice none 0 0, .int .i64 2])) ∨
    (shareOK c ws = true ∧ ∃ g, e = .returned (.tuple #[.slice (some ⟨g, 0, none⟩) ws.length ws.length, .int .i64 0]) ∧ w'.ownsRow w.heap.size 2 1 (.slice (some ⟨g, 0, none⟩) ws.length ws.length) ws.length (intV (shareL c ws))))
theorem shareOK_iff {c : Int} {ws : List Int} : shareOK c ws = true ↔ ws.length ≤ 1048576 ∧ allC ws = true ∧ sumL ws ≠ 0 ∧ isC c = true := by
  unfold shareOK totR
  by_cases h : ws.length ≤ 1048576 ∧ allC ws = true
  · rw [if_pos h]; simp [h.1, h.2]
  · rw [if_neg h]
    simp only [Bool.false_and, Bool.false_eq_true, false_iff]
    exact fun h2 => h ⟨h2.1, h2.2.1⟩

set_option maxRecDepth 100000 in
set_option maxHeartbeats 8000000 in
theorem share_any {w : World} {A : Option Addr} {n cc : Nat} {c : Int} {ws : List Int} (h : Reads w w.heap.size 1 A n (intV ws)) (hn : n ≤ 1000000) :
    Calls Tryd.prog 12 #[.int .i64 c, .slice A n cc] w (ShareP c ws w) := by
  have HR := hide h
  have hlen := h.len
  have HT := hide (total_any (c := cc) h (by omega))
  have HA := hide (are_any c w)
  clear h
  by_cases hok : shareOK c ws = true
  · obtain ⟨_, hall, hs0, hc⟩ := shareOK_iff.1 hok
    have ht : totR ws = (sumL ws, true) := if_pos ⟨by omega, hall⟩
    rw [ht] at HT
    rw [hc] at HA
    have hsb := sumL_bound hall
    rw [isC_iff] at hc
    obtain ⟨cn, rfl⟩ : ∃ cn : Nat, c = cn := ⟨c.toNat, by omega⟩
    obtain ⟨s, hs⟩ : ∃ s : Nat, sumL ws = s := ⟨(sumL ws).toNat, by omega⟩
    have HS := hide hs
    have HALL := hide hall
    have HOK := hide hok
    have hn0 : 0 < n := by
      rcases Nat.eq_zero_or_pos n with h | h
      · rw [h] at hlen
        rw [List.eq_nil_of_length_eq_zero hlen] at hs0
        exact absurd rfl hs0
      · exact h
    rw [hs] at HT hs0 hsb
    rw [hlen] at hsb
    have hsz : ((s : Int) == 0) = false := by rw [beq_eq_false_iff_ne]; exact hs0
    have HB : Hid (0 < s ∧ s ≤ 1099511627776000000 ∧ cn ≤ 1099511627776 ∧ 0 < n ∧ n ≤ 1000000 ∧ ws.length = n) := hide ⟨by omega, by omega, by omega, hn0, hn, hlen⟩
    have HL := hide (left_bound (c := (cn : Int)) hs (by omega) (by omega))
    have M1 := hide (make_k info2 Tryd.underlying22 n hn)
    have m1 := make_k info2 Tryd.underlying22 n hn
    have m2 := make_k info69 Tryd.underlying67 n hn
    have m3 := make_k info3 Tryd.underlying68 n hn
    have HS0 := hide (ShW.start w n)
    have hmf : ∀ (fn : Fn) (first cap : Array Value) (w : World), (Instr.makeFunc fn first cap).run Tryd.prog w = .ok (.func fn first cap) w := fun _ _ _ _ => rfl
    have fc : IntKind.u64.wrap (cn : Int) = (cn : Int) := wrapN (by omega)
    have fs : IntKind.u64.wrap (s : Int) = (s : Int) := wrapN (by omega)
    have hni : (0 : Int) ≤ (n : Int) := by omega
    clear hok hall hs hs0 hsb hc hn0 hlen hn ht
    go_enter Tryd.func12, Tryd.ntmps12
    go_wp2_with fail
    refine (HT.out).mono ?_
    rintro _ _ ⟨rfl, rfl⟩
    go_wp2_with fail
    refine (HA.out).mono ?_
    rintro _ _ ⟨rfl, rfl⟩
    go_wp2_with fail
    clear m1 m2 m3 HT HA M1
    generalize (((w.alloc (.cells (cellsF .i64 (fun _ => 0) n) 2)).alloc (.cells (cellsF .u64 (fun _ => 0) n) 69)).alloc (.cells #[.slice (some ⟨w.heap.size + 1, 0, none⟩) n n] 67)).alloc (.cells (cellsF .i64 (fun _ => 0) n) 3) = w1 at *
    generalize hgr : w.heap.size + 1 = gr at *
    generalize hgb : gr + 1 = gb at *
    generalize hgd : gb + 1 = gd at *
    clear hgr hgb hgd
    generalize hgo : w.heap.size = go at *
    have HGO := hide hgo
    clear hgo
    have hn9 : (n : Int) ≤ 1000000 := by have := HB.out; omega
    go_loopw [48, 11] (fun iv lv W => ∃ (k : Nat) (t : Int), k ≤ n ∧ iv = .int .i64 k ∧ lv = .int .i64 t ∧ t = (cn : Int) - sumL (rowF (qF cn s ws) k) ∧ ShW w go gr gb gd n (fun i => if i < k then qF cn s ws i else 0) (fun i => if i < k then rF cn s ws i else 0) (fun i => if i < k then (i : Int) else 0) W) (fun iv _ _ => n - (intOf iv).toNat)
    case atStart => exact ⟨0, cn, Nat.zero_le _, rfl, rfl, by simp [rowF, sumL], HS0.out.congr (fun i _ => by simp) (fun i _ => by simp) (fun i _ => by simp)⟩
    case round =>
      rename World => wk
      obtain ⟨k, t, hk, rfl, rfl, ht, hsh⟩ := hrel
      have HSH := hide hsh
      have HTT := hide ht
      clear ht hsh HS0
      have hk0 : (0 : Int) ≤ (k : Int) := by omega
      have hk9 : (k : Int) ≤ 1000000 := by omega
      by_cases hlt : k < n
      · have hki : (k : Int) < (n : Int) := by omega
        obtain ⟨x, hx⟩ := get_of (l := ws) (k := k) (by have := HB.out; omega)
        obtain ⟨hx0, hx1⟩ := allC_get HALL.out hx
        have hRd := (HR.out.below (by have := HSH.out.bel; rwa [HGO.out] at this)).int hlt hx
        obtain ⟨g, o, rfl, _, hcell⟩ := hRd
        obtain ⟨xn, rfl⟩ : ∃ xn : Nat, x = xn := ⟨x.toNat, by omega⟩
        have HX := hide hx
        have HLT := hide hlt
        have hxs : xn ≤ s := by
          have h1 := sumL_take hx
          have h2 := sumL_pre HALL.out (k + 1)
          have h3 := (sumL_takeB HALL.out k).1
          rw [HS.out] at h2
          omega
        have hsn : 0 < s := HB.out.1
        have hcb : cn ≤ 1099511627776 := HB.out.2.2.1
        have hsb : s ≤ 1099511627776000000 := HB.out.2.1
        obtain ⟨X, hX⟩ : ∃ X, X = cn * xn := ⟨_, rfl⟩
        have hXs : X ≤ cn * s := by rw [hX]; exact Nat.mul_le_mul_left _ hxs
        have hXs2 : cn * s ≤ 1099511627776 * s := Nat.mul_le_mul_right _ hcb
        have hmul : X / 18446744073709551616 < s := by
          rw [Nat.div_lt_iff_lt_mul (by decide)]
          omega
        have hqb : X / s ≤ 1099511627776 := by
          rw [Nat.div_le_iff_le_mul_add_pred hsn, Nat.mul_comm]
          omega
        have hrb := Nat.mod_lt X hsn
        have fx : IntKind.u64.wrap (xn : Int) = (xn : Int) := wrapN (by omega)
        have hM0 := shelf_bits_Mul64 cn xn (by omega) (by omega) wk
        rw [← hX] at hM0
        have hD0 := fun W => div64_any X s hsn hmul (by omega) W
        unfold DivQ at hD0
        obtain ⟨hi, hhi⟩ : ∃ a, a = X / 18446744073709551616 := ⟨_, rfl⟩
        obtain ⟨lo, hlo⟩ : ∃ a, a = X % 18446744073709551616 := ⟨_, rfl⟩
        obtain ⟨q, hq⟩ : ∃ a, a = X / s := ⟨_, rfl⟩
        obtain ⟨r, hr⟩ : ∃ a, a = X % s := ⟨_, rfl⟩
        rw [← hhi, ← hlo] at hM0
        simp only [← hhi, ← hlo, ← hq, ← hr] at hD0
        rw [← hq] at hqb
        have HM := hide hM0
        have HDV := hide hD0
        have HQ : Hid (qF cn s ws k = q ∧ rF cn s ws k = r) := hide (by
          have e : ws.getD k 0 = xn := by rw [List.getD_eq_getElem?_getD, hx]; rfl
          have e2 : (cn : Int) * xn = (X : Int) := by rw [hX]; exact (Int.natCast_mul _ _).symm
          unfold qF rF
          rw [e, e2, hq, hr]
          exact ⟨rfl, rfl⟩)
        have fq : IntKind.i64.wrap (q : Int) = (q : Int) := wrap_in (by omega)
        have htb : -1099511627776000000 ≤ t ∧ t ≤ 1099511627776 := by
          have h1 := sum_q (c := (cn : Int)) HALL.out HS.out (by omega) (by omega) k (by have := HB.out; omega)
          rw [HTT.out]
          have h3 : (cn : Int) * k ≤ 1099511627776 * k := Int.mul_le_mul_of_nonneg_right (by omega) (by omega)
          omega
        have ft : IntKind.i64.wrap (t - (q : Int)) = t - q := wrap_in (by omega)
        clear hx hx0 hx1 hlt hxs hsn hcb hsb hX hXs hXs2 hmul hqb hrb hM0 hD0 hhi hlo hq hr htb
        go_wp2_with fail
        refine (HM.out).mono ?_
        rintro _ _ ⟨rfl, rfl⟩
        rename World => wk
        go_wp2_with fail
        refine (HDV.out _).mono ?_
        rintro _ w2 ⟨rfl, hb2⟩
        have HSH2 := hide (HSH.out.below hb2)
        clear hb2 hcell
        go_wp2_with fail
        have HSd := hide (HSH2.out.below ((Below.refl _ w2).drew))
        obtain ⟨P, hP⟩ : ∃ P : World → Prop, P = fun W => W.cell? ⟨gb, 0, none⟩ = some (.slice (some ⟨gr, 0, none⟩) n n) := ⟨_, rfl⟩
        have hP0 : P w2.drew := by rw [hP]; exact HSd.out.box
        have HPE := hide hP
        refine wp_region_U 16 P (by kernel_rfl) hP0 (fun hHeld => ?_)
        refine AnyU.take (i := 0) (v := ?v101) rfl (by kernel_rfl) (by kernel_rfl) (by kernel_rfl) (by kernel_rfl) (fun _ _ _ h => h) (Or.inl ⟨by rfl, ?hy101⟩) hHeld ?r101
        case hy101 => (intro w hSw; (try dsimp only at hSw); rw [hP] at hSw; go_simp <;> with_reducible rfl)
        simp only [Act.put, List.setIfInBounds_toArray, List.set_cons_zero, List.set_cons_succ]
        refine AnyU.take (i := 1) (v := ?v102) rfl (by kernel_rfl) (by kernel_rfl) (by kernel_rfl) (by kernel_rfl) (fun _ _ _ h => h) (Or.inl ⟨by rfl, ?hy102⟩) hHeld ?r102
        case hy102 => (intro w hSw; (try dsimp only at hSw); rw [hP] at hSw; go_simp <;> with_reducible rfl)
        simp only [Act.put, List.setIfInBounds_toArray, List.set_cons_zero, List.set_cons_succ]
        refine AnyU.take (i := 2) (v := ?v103) rfl (by kernel_rfl) (by kernel_rfl) (by kernel_rfl) (by kernel_rfl) (fun _ _ _ h => h) (Or.inl ⟨by rfl, ?hy103⟩) hHeld ?r103
        case hy103 => (intro w hSw; (try dsimp only at hSw); rw [hP] at hSw; go_simp <;> with_reducible rfl)
        simp only [Act.put, List.setIfInBounds_toArray, List.set_cons_zero, List.set_cons_succ]
        refine AnyU.take (i := 3) (v := ?v104) rfl (by kernel_rfl) (by kernel_rfl) (by kernel_rfl) (by kernel_rfl) (fun _ _ _ h => h) (Or.inl ⟨by rfl, ?hy104⟩) hHeld ?r104
        case hy104 => (intro w hSw; (try dsimp only at hSw); rw [hP] at hSw; go_simp <;> with_reducible rfl)
        simp only [Act.put, List.setIfInBounds_toArray, List.set_cons_zero, List.set_cons_succ]
        refine AnyU.take (i := 4) (v := ?v105) rfl (by kernel_rfl) (by kernel_rfl) (by kernel_rfl) (by kernel_rfl) (fun _ _ _ h => h) (Or.inl ⟨by rfl, ?hy105⟩) hHeld ?r105
        case hy105 => (intro w hSw; (try dsimp only at hSw); rw [hP] at hSw; go_simp <;> with_reducible rfl)
        simp only [Act.put, List.setIfInBounds_toArray, List.set_cons_zero, List.set_cons_succ]
        refine AnyU.take (i := 5) (v := ?v106) rfl (by kernel_rfl) (by kernel_rfl) (by kernel_rfl) (by kernel_rfl) (fun _ _ _ h => h) (Or.inl ⟨by rfl, ?hy106⟩) hHeld ?r106
        case hy106 => (intro w hSw; (try dsimp only at hSw); rw [hP] at hSw; go_simp <;> with_reducible rfl)
        simp only [Act.put, List.setIfInBounds_toArray, List.set_cons_zero, List.set_cons_succ]
        refine AnyU.take (i := 6) (v := ?v107) rfl (by kernel_rfl) (by kernel_rfl) (by kernel_rfl) (by kernel_rfl) (fun _ _ _ h => h) (Or.inl ⟨by rfl, ?hy107⟩) hHeld ?r107
        case hy107 => (intro w hSw; (try dsimp only at hSw); rw [hP] at hSw; go_simp <;> with_reducible rfl)
        simp only [Act.put, List.setIfInBounds_toArray, List.set_cons_zero, List.set_cons_succ]
        refine AnyU.take (i := 7) (v := ?v108) rfl (by kernel_rfl) (by kernel_rfl) (by kernel_rfl) (by kernel_rfl) (fun _ _ _ h => h) (Or.inl ⟨by rfl, ?hy108⟩) hHeld ?r108
        case hy108 => (intro w hSw; (try dsimp only at hSw); rw [hP] at hSw; go_simp <;> with_reducible rfl)
        simp only [Act.put, List.setIfInBounds_toArray, List.set_cons_zero, List.set_cons_succ]
        refine AnyU.take (i := 8) (v := ?v109) rfl (by kernel_rfl) (by kernel_rfl) (by kernel_rfl) (by kernel_rfl) (fun _ _ _ h => h) (Or.inl ⟨by rfl, ?hy109⟩) hHeld ?r109
        case hy109 => (intro w hSw; (try dsimp only at hSw); rw [hP] at hSw; go_simp <;> with_reducible rfl)
        simp only [Act.put, List.setIfInBounds_toArray, List.set_cons_zero, List.set_cons_succ]
        refine AnyU.take (i := 9) (v := ?v110) rfl (by kernel_rfl) (by kernel_rfl) (by kernel_rfl) (by kernel_rfl) (fun _ _ _ h => h) (Or.inl ⟨by rfl, ?hy110⟩) hHeld ?r110
        case hy110 => (intro w hSw; (try dsimp only at hSw); rw [hP] at hSw; go_simp <;> with_reducible rfl)
        simp only [Act.put, List.setIfInBounds_toArray, List.set_cons_zero, List.set_cons_succ]
        refine AnyU.take (i := 10) (v := ?v111) rfl (by kernel_rfl) (by kernel_rfl) (by kernel_rfl) (by kernel_rfl) (fun _ _ _ h => h) (Or.inl ⟨by rfl, ?hy111⟩) hHeld ?r111
        case hy111 => (intro w hSw; (try dsimp only at hSw); rw [hP] at hSw; go_simp <;> with_reducible rfl)
        simp only [Act.put, List.setIfInBounds_toArray, List.set_cons_zero, List.set_cons_succ]
        clear hHeld hP0
        have y1 : w2.cell? ⟨go, k, none⟩ = some _ := cellsF_get HSd.out.o HLT.out
        have y2 : w2.frozen? ⟨go, k, none⟩ = false := (HSd.out.froz k).1
        refine AnyU.next (js := [11]) (by kernel_rfl) (by simp) (NextU.cons rfl (fun K hK => ?_) NextU.nil)
        go_simp
        have HSa : Hid (ShW w go gr gb gd n (updF (fun i => if i < k then qF cn s ws i else 0) k q) (fun i => if i < k then rF cn s ws i else 0) (fun i => if i < k then (i : Int) else 0) ((w2.setCell ⟨go, k, none⟩ (.int .i64 (q : Int))).drew)) := hide (HSd.out.setO k q)
        clear y1 y2
        generalize (w2.setCell ⟨go, k, none⟩ (.int .i64 (q : Int))).drew = wA at *
        have HPa := hide (show P wA from by rw [HPE.out]; exact HSa.out.box)
        refine hK.out _ _ (fun _ => HPa.out) (fun hHeld => ?_)
        try simp only [Act.put, List.setIfInBounds_toArray, List.set_cons_zero, List.set_cons_succ]
        clear hK K
        have hHeld := hHeld (by decide)
        refine AnyU.take (i := 12) (v := ?v112) rfl (by kernel_rfl) (by kernel_rfl) (by kernel_rfl) (by kernel_rfl) (fun _ _ _ h => h) (Or.inl ⟨by rfl, ?hy112⟩) hHeld ?r112
        case hy112 => (intro w hSw; (try dsimp only at hSw); rw [hP] at hSw; go_simp <;> with_reducible rfl)
        simp only [Act.put, List.setIfInBounds_toArray, List.set_cons_zero, List.set_cons_succ]
        clear hHeld
        have y1 : wA.cell? ⟨gr, k, none⟩ = some _ := cellsF_get HSa.out.r HLT.out
        have y2 : wA.frozen? ⟨gr, k, none⟩ = false := (HSa.out.froz k).2.1
        refine AnyU.next (js := [13]) (by kernel_rfl) (by simp) (NextU.cons rfl (fun K hK => ?_) NextU.nil)
        go_simp
        have HSb := hide (HSa.out.setR k r)
        clear y1 y2
        generalize wA.setCell ⟨gr, k, none⟩ (.int .u64 (r : Int)) = wB at *
        have HPb := hide (show P wB from by rw [HPE.out]; exact HSb.out.box)
        refine hK.out _ _ (fun _ => HPb.out) (fun hHeld => ?_)
        try simp only [Act.put, List.setIfInBounds_toArray, List.set_cons_zero, List.set_cons_succ]
        clear hK K
        have hHeld := hHeld (by decide)
        refine AnyU.take (i := 14) (v := ?v113) rfl (by kernel_rfl) (by kernel_rfl) (by kernel_rfl) (by kernel_rfl) (fun _ _ _ h => h) (Or.inl ⟨by rfl, ?hy113⟩) hHeld ?r113
        case hy113 => (intro w hSw; (try dsimp only at hSw); rw [hP] at hSw; go_simp <;> with_reducible rfl)
        simp only [Act.put, List.setIfInBounds_toArray, List.set_cons_zero, List.set_cons_succ]
        clear hHeld
        have y1 : wB.cell? ⟨gd, k, none⟩ = some _ := cellsF_get HSb.out.d HLT.out
        have y2 : wB.frozen? ⟨gd, k, none⟩ = false := (HSb.out.froz k).2.2
        refine AnyU.next (js := [15]) (by kernel_rfl) (by simp) (NextU.cons rfl (fun K hK => ?_) NextU.nil)
        go_simp
        have HSc := hide (HSb.out.setD k k)
        clear y1 y2
        generalize wB.setCell ⟨gd, k, none⟩ (.int .i64 (k : Int)) = wC at *
        have HPc := hide (show P wC from by rw [HPE.out]; exact HSc.out.box)
        refine hK.out _ _ (fun _ => HPc.out) (fun hHeld => ?_)
        try simp only [Act.put, List.setIfInBounds_toArray, List.set_cons_zero, List.set_cons_succ]
        clear hK K
        clear hHeld
        refine AnyU.over (by kernel_rfl) ?_ _
        have HSn : Hid (ShW w go gr gb gd n (fun i => if i < k + 1 then qF cn s ws i else 0) (fun i => if i < k + 1 then rF cn s ws i else 0) (fun i => if i < k + 1 then (i : Int) else 0) wC) := hide (HSc.out.congr (fun i _ => upd_to (qF cn s ws) HQ.out.1 i) (fun i _ => upd_to (rF cn s ws) HQ.out.2 i) (fun i _ => upd_to (fun i => (i : Int)) rfl i))
        have HTN : Hid (t - q = (cn : Int) - sumL (rowF (qF cn s ws) (k + 1))) := hide (by
          rw [rowF_succ, sumL_append, HQ.out.1, HTT.out]
          simp [sumL]
          omega)
        clear hP HPE HPa HPb HPc HSa HSb HSc HSd HSH2
        go_wp2_with fail
        go_roundw
        case rel => exact ⟨k + 1, t - q, HLT.out, by go_num, rfl, HTN.out, HSn.out⟩
        case measure => have := HLT.out; simp [intOf]; omega
      · have hki : ¬ (k : Int) < (n : Int) := by omega
        have hkn : k = n := by omega
        subst hkn
        obtain ⟨L, hL, hLn⟩ : ∃ L : Nat, t = L ∧ L < k := by
          have h1 := HL.out
          unfold leftF at h1
          rw [HB.out.2.2.2.2.2, ← HTT.out] at h1
          exact ⟨t.toNat, by omega, by omega⟩
        have HLE : Hid ((leftF cn s ws).toNat = L) := hide (by
          unfold leftF
          rw [HB.out.2.2.2.2.2, ← HTT.out, hL]; rfl)
        subst hL
        have HLN := hide hLn
        have hOD := HSH.out.ownD HB.out.2.2.2.2.1
        rw [rangeI_row] at hOD
        have hcm : CmpV (fun x => 0 ≤ x ∧ x < (k : Int)) 42 #[.pointer (some ⟨gb, 0, none⟩)] (cmpF (rF cn s ws)) gd 0 k wk := by
          intro m os dk hs x y hx hy
          obtain ⟨i, rfl⟩ : ∃ i : Nat, x = i := ⟨x.toNat, by omega⟩
          obtain ⟨j, rfl⟩ : ∃ i : Nat, y = i := ⟨y.toNat, by omega⟩
          have hi : i < k := by omega
          have hj : j < k := by omega
          have l2 := HSH.out.l2
          have l3 := HSH.out.l3
          have key : ∀ t, t < k → (sortWorld (Value.int .i64) wk gd 0 m dk os).cell? ⟨gr, t, none⟩ = some (.int .u64 (rF cn s ws t)) := fun t ht => by
            rw [cell_putI (by omega) (lt_of_block HSH.out.r), cellsF_get HSH.out.r ht]
            simp [ht]
          refine (shCmp (rF cn s ws) gr gb k i j _ hi hj HB.out.2.2.2.2.1 ?_ (key i hi) (key j hj)).mono ?_
          · rw [cell_putI (by omega) (lt_of_block HSH.out.b)]
            exact HSH.out.box
          · rintro e w' ⟨he, q, hq⟩
            exact ⟨he, q, #[], by rw [hq, grow_empty]⟩
        have HSO := hide (sortI_any (swoF (rF cn s ws)) (enters_of Tryd.func42 (by kernel_rfl) rfl) hcm hOD HB.out.2.2.2.2.1)
        have hL0 : (0 : Int) ≤ (L : Int) := by omega
        have hLk : (L : Int) ≤ (k : Int) := by omega
        have hLk2 : L ≤ k := by omega
        clear hOD hcm hLn
        go_wp2_with fail
        refine (HSO.out).mono ?_
        rintro _ w2 ⟨rfl, _, hown2, hg2⟩
        have HO2 : Hid (w2.ownsRow w.heap.size 3 1 (.slice (some ⟨gd, 0, none⟩) k k) k ((ordF (rF cn s ws) k).map (Value.int .i64))) := hide hown2
        have HBo : Hid (w2.heap[go]? = some (.cells (cellsF .i64 (shF cn s ws 0) k) 2 (0, 0))) := hide (by
          have l1 := HSH.out.l1
          have l2 := HSH.out.l2
          have l3 := HSH.out.l3
          have h1 := (hg2.block _ (lt_of_block HSH.out.o) (fun e => by injection e with e; omega)).trans HSH.out.o
          rw [h1]
          unfold cellsF
          rw [rowF_congr (f := fun i => if i < k then qF cn s ws i else 0) (g := shF cn s ws 0) (fun i hi => by rw [shF_zero]; simp [hi])])
        have HBW : Hid (Below w.heap.size w w2) := hide (HSH.out.bel.grown hg2 HSH.out.bel.size (fun j hj => by
          injection hj with hj
          have l0 := HSH.out.lo
          have l1 := HSH.out.l1
          have l2 := HSH.out.l2
          have l3 := HSH.out.l3
          omega))
        clear hown2 hg2
        go_wp2_with fail
        go_loopw [94] (fun iv W => ∃ j : Nat, j ≤ L ∧ iv = .int .i64 j ∧ Below w.heap.size w W ∧ W.heap[go]? = some (.cells (cellsF .i64 (shF cn s ws j) k) 2 (0, 0)) ∧ W.ownsRow w.heap.size 3 1 (.slice (some ⟨gd, 0, none⟩) k k) k ((ordF (rF cn s ws) k).map (Value.int .i64))) (fun iv _ => L - (intOf iv).toNat)
        case atStart => exact ⟨0, Nat.zero_le _, rfl, HBW.out, HBo.out, HO2.out⟩
        case round =>
          rename World => wj
          clear HBW HBo HO2
          obtain ⟨j, hj, rfl, hbw, hbo, hoo⟩ := hrel
          have HBW := hide hbw
          have HBO := hide hbo
          have HOO := hide hoo
          clear hbw hbo hoo
          have hj0 : (0 : Int) ≤ (j : Int) := by omega
          have hj9 : (j : Int) ≤ 1000000 := by omega
          by_cases hlt : j < L
          · obtain ⟨e, he, hen⟩ := ord_get (r := rF cn s ws) (n := k) (j := j) (by have := HLN.out; omega)
            have hji : (j : Int) < (L : Int) := by omega
            have c1 := HOO.out.cellAt j (by have := HLN.out; omega)
            rw [List.getElem?_map, he] at c1
            have c2 := cellsF_get HBO.out hen
            have c3 := frozen_of_row wj go e _ _ HBO.out
            have hst := shF_step (c := (cn : Int)) (s := s) (ws := ws) (j := j) (e := e) (by rw [HB.out.2.2.2.2.2]; exact he)
            have hqb := q_bound (c := (cn : Int)) HALL.out HS.out (by have := HB.out; omega) (by omega) e (by rw [HB.out.2.2.2.2.2]; exact hen)
            rw [hst.1] at c2
            have HST := hide hst
            have hcb : cn ≤ 1099511627776 := HB.out.2.2.1
            have hw : IntKind.i64.wrap (qF cn s ws e + 1) = qF cn s ws e + 1 := wrap_in (by omega)
            have hee : (e : Int) < (k : Int) := by omega
            have he0 : (0 : Int) ≤ (e : Int) := by omega
            have HLT := hide hlt
            have HFIN : Hid ((wj.setCell ⟨go, e, none⟩ (.int .i64 (qF cn s ws e + 1))).heap[go]? = some (.cells (cellsF .i64 (shF cn s ws (j + 1)) k) 2 (0, 0)) ∧ (wj.setCell ⟨go, e, none⟩ (.int .i64 (qF cn s ws e + 1))).ownsRow w.heap.size 3 1 (.slice (some ⟨gd, 0, none⟩) k k) k ((ordF (rF cn s ws) k).map (Value.int .i64)) ∧ Below w.heap.size w (wj.setCell ⟨go, e, none⟩ (.int .i64 (qF cn s ws e + 1)))) := hide (by
              have l0 := HSH.out.lo
              have l1 := HSH.out.l1
              have l2 := HSH.out.l2
              have l3 := HSH.out.l3
              refine ⟨?_, ownsRow_setCell_other HOO.out (fun h => by injection h with h; have h : gd = go := h; omega) _, HBW.out.setCell l0 _⟩
              rw [setCell_block HBO.out e, cellsF_set, ← HST.out.1]
              unfold cellsF
              rw [rowF_congr (fun i _ => HST.out.2 i)])
            generalize qF cn s ws e = qe at *
            clear he hen hst hqb hcb hlt HST
            go_wp2_with fail
            go_roundw
            case rel => exact ⟨j + 1, HLT.out, by go_num, HFIN.out.2.2, HFIN.out.1, HFIN.out.2.1⟩
            case measure => have := HLT.out; simp [intOf]; omega
          · have hji : ¬ (j : Int) < (L : Int) := by omega
            have hjL : j = L := by omega
            subst hjL
            go_wp2_with fail
            go_ret2
            refine ⟨HBW.out, .inr ⟨HOK.out, go, ?_, ?_⟩⟩
            · rw [HB.out.2.2.2.2.2]; rfl
            · have h1 : wj.ownsRow w.heap.size 2 1 (.slice (some ⟨go, 0, none⟩) k k) k (intV (rowF (shF cn s ws j) k)) :=
                ⟨by rw [intV_len, rowF_len, Nat.mul_one], .inr ⟨go, k, _, rfl, HSH.out.lo, HBO.out, Nat.le_refl _, by have := HB.out.2.2.2.2.1; unfold maxLen; omega, by simp [cellsF, rowF_len], by
                  unfold cellsF intV
                  rw [Nat.mul_one, List.take_of_length_le (by simp [rowF_len])]⟩⟩
              unfold shareL
              rw [HB.out.2.2.2.2.2, HS.out, HLE.out]
              exact h1
  · have hok2 : shareOK c ws = false := by simpa using hok
    have HOK := hide hok2
    have hdef : shareOK c ws = ((totR ws).2 && !((totR ws).1 == 0) && isC c) := rfl
    rw [hdef] at hok2
    obtain ⟨t1, ht1⟩ : ∃ a, a = (totR ws).1 := ⟨_, rfl⟩
    obtain ⟨t2, ht2⟩ : ∃ a, a = (totR ws).2 := ⟨_, rfl⟩
    obtain ⟨t3, ht3⟩ : ∃ a, a = isC c := ⟨_, rfl⟩
    rw [← ht1, ← ht2] at HT hok2
    rw [← ht3] at HA hok2
    clear hok ht1 ht2 ht3 hdef hlen hn
    go_enter Tryd.func12, Tryd.ntmps12
    go_wp2_with fail
    refine (HT.out).mono ?_
    rintro _ _ ⟨rfl, rfl⟩
    cases t2 with
    | false =>
      go_wp2_with fail
      go_ret2
      exact ⟨Below.refl _ _, .inl ⟨HOK.out, rfl⟩⟩
    | true =>
      by_cases hz : t1 = 0
      · subst hz
        go_wp2_with fail
        go_ret2
        exact ⟨Below.refl _ _, .inl ⟨HOK.out, rfl⟩⟩
      · have hz2 : (t1 == 0) = false := by rw [beq_eq_false_iff_ne]; exact hz
        rw [hz2] at hok2
        have h3 : t3 = false := by simpa using hok2
        subst h3
        clear hok2
        go_wp2_with fail
        refine (HA.out).mono ?_
        rintro _ _ ⟨rfl, rfl⟩
        go_wp2_with fail
        go_ret2
        exact ⟨Below.refl _ _, .inl ⟨HOK.out, rfl⟩⟩
end Go.Proofs.YtgjeihgkcmheeaaDoor
