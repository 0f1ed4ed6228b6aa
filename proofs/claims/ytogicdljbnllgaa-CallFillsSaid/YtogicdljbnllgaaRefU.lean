/- The walks of gavelref13's Side: unit, all, shares, side. -/
import Derived.Test.YtogicdljbnllgaaInsR
import Derived.Test.YtogicdljbnllgaaFairR
namespace Go.Proofs.Ytogicdljbnllgaa
open Go.Shelf Go.RowKit Go.Lib Go.Sort Go.Proofs

/-- Whose the k-th unit is. -/
def unitR : List Tri → Int → Int
  | [], _ => -1
  | x :: L, k => if k - x.2.2 ≤ 0 then x.1 else unitR L (k - x.2.2)
theorem ordT_at {l : List (Int × Int)} {o : List Int} {i j : Nat} {z : Int × Int} (ho : o[i]? = some (j : Int)) (hz : l[j]? = some z) : (ordT l o)[i]? = some ((j : Int), z) := by
  unfold ordT
  rw [List.getElem?_map, ho, Option.map_some, Int.toNat_natCast, List.getD_eq_getElem?_getD, hz]
  rfl
theorem drop_at {α : Type} {l : List α} {i : Nat} {x : α} (h : l[i]? = some x) : l.drop i = x :: l.drop (i + 1) := by
  have hi := (List.getElem?_eq_some_iff.1 h).1
  rw [List.drop_eq_getElem_cons hi, (List.getElem?_eq_some_iff.1 h).2]
/-- The order's places, in memory. -/
structure SideM (w : World) (A : Option Addr) (l : List (Int × Int)) (O : Option Addr) (o : List Int) : Prop where
  wl : Wants w w.heap.size A l
  wo : Ints w w.heap.size O o
  inr : InR l.length o
  len : l.length ≤ 1000000
  lo : o.length = l.length
  cnt : ∀ x ∈ l, 1 ≤ x.2 ∧ x.2 ≤ 64
section
variable {w W : World} {A : Option Addr} {l : List (Int × Int)} {O : Option Addr} {o : List Int}
theorem SideM.below (h : SideM w A l O o) (hb : Below w.heap.size w W) : SideM W A l O o := ⟨(h.wl.below hb).more hb.size, (h.wo.below hb).more hb.size, h.inr, h.len, h.lo, h.cnt⟩
/-- What stands at a place in order. -/
theorem SideM.at_ (h : SideM w A l O o) {i : Nat} (hi : i < o.length) : ∃ (b bo ob oo j : Nat) (z : Int × Int), A = some ⟨b, bo, none⟩ ∧ O = some ⟨ob, oo, none⟩ ∧ o[i]? = some (j : Int) ∧ l[j]? = some z ∧ j < l.length ∧ b < w.heap.size ∧ ob < w.heap.size ∧
    w.cell? ⟨ob, oo + i, none⟩ = some (.int .i64 (j : Int)) ∧ w.cell? ⟨b, bo + j * 2, none⟩ = some (.int .i64 z.1) ∧ w.cell? ⟨b, bo + j * 2 + 1, none⟩ = some (.int .i64 z.2) ∧ (1 ≤ z.2 ∧ z.2 ≤ 64) := by
  obtain ⟨x, hx⟩ : ∃ x, o[i]? = some x := ⟨o[i], List.getElem?_eq_getElem hi⟩
  obtain ⟨h0, h1⟩ := h.inr x (List.mem_of_getElem? hx)
  obtain ⟨j, rfl⟩ := Int.eq_ofNat_of_zero_le h0
  have hj : j < l.length := by omega
  obtain ⟨z, hz⟩ : ∃ z, l[j]? = some z := ⟨l[j], List.getElem?_eq_getElem hj⟩
  obtain ⟨b, bo, rfl, hb, hc⟩ := Wants.at_ h.wl (by omega)
  obtain ⟨ob, oo, rfl, hob, hoc⟩ := Ints.at_ h.wo (by omega)
  exact ⟨b, bo, ob, oo, j, z, rfl, rfl, hx, hz, hj, hb, hob, hoc i _ hx, (hc j z hz).1, (hc j z hz).2, h.cnt z (List.mem_of_getElem? hz)⟩
end

set_option maxRecDepth 100000 in
set_option maxHeartbeats 4000000 in
theorem unit_any (A : Option Addr) (c : Nat) (l : List (Int × Int)) (O : Option Addr) (co : Nat) (o : List Int) (k : Int) (w : World) (h : SideM w A l O o) (hk : 0 ≤ k ∧ k ≤ 1000000) :
    Calls Try.prog 32 #[.agg #[.slice A l.length c, .slice O o.length co], .int .i64 k] w (ValPost (.int .i64 (unitR (ordT l o) k)) w) := by
  have hal : Below w.heap.size w (w.alloc (.cells #[.slice A l.length c, .slice O o.length co] 72)) := (Below.refl _ _).alloc (Nat.le_refl _) _
  have HB := hide hal
  have HZ : Hid ((w.alloc (.cells #[.slice A l.length c, .slice O o.length co] 72)).heap[w.heap.size]? = some (.cells #[.slice A l.length c, .slice O o.length co] 72 (0, 0))) := hide (heap_alloc_new w _)
  have HM := hide h
  clear hal h
  go_enter Try.func32, Try.ntmps32
  go_wp2_with fail
  generalize w.alloc (.cells #[.slice A l.length c, .slice O o.length co] 72) = w0 at *
  go_loopw [1, 5] (fun kv iv wr => ∃ (i : Nat) (k' : Int), i ≤ o.length ∧ kv = .int .i64 k' ∧ iv = .int .i64 i ∧ (0 ≤ k' ∧ k' ≤ 1000000) ∧ unitR (ordT l o) k = unitR ((ordT l o).drop i) k' ∧ Below w.heap.size w wr ∧ wr.heap[w.heap.size]? = some (.cells #[.slice A l.length c, .slice O o.length co] 72 (0, 0))) (fun _ iv _ => o.length - (intOf iv).toNat)
  case atStart => exact ⟨0, k, Nat.zero_le _, rfl, rfl, hk, rfl, HB.out, HZ.out⟩
  case round =>
    obtain ⟨i, k', hi, rfl, rfl, hkb, hu, hb, hz⟩ := hrel
    have HBI := hide hb
    have HZI := hide hz
    have x0 := cell_of_row _ _ 0 _ _ (0, 0) hz
    have x1 := cell_of_row _ _ 1 _ _ (0, 0) hz
    simp only [List.getElem?_toArray, List.getElem?_cons_zero, List.getElem?_cons_succ] at x0 x1
    by_cases hlt : i < o.length
    · obtain ⟨b, bo, ob, oo, j, z, rfl, rfl, hoj, hlj, hj, hbB, hobB, q0, q1, q2, hcz⟩ := HM.out.at_ hlt
      have c0 := (hb.cell (p := ⟨ob, oo + i, none⟩) hobB).trans q0
      have c2 := (hb.cell (p := ⟨b, bo + j * 2 + 1, none⟩) hbB).trans q2
      have hij : (i : Int) < (o.length : Int) := by omega
      have hjl : (j : Int) < (l.length : Int) := by omega
      have hw : IntKind.i64.wrap (k' - z.2) = k' - z.2 := Go.IntWalk.i64_in _ (by omega)
      rw [drop_at (ordT_at hoj hlj)] at hu
      simp only [unitR] at hu
      have hsz : i < 1000000 := by have := HM.out.len; have := HM.out.lo; omega
      clear hb hz q0 q1 q2 hoj hlj hbB hobB
      by_cases hle : k' - z.2 ≤ 0
      · rw [if_pos hle] at hu
        rw [hu]
        have hd : decide (k' - z.2 ≤ 0) = true := decide_eq_true hle
        clear hu
        go_wp2_with fail
        go_quiet (fail)
        go_wp2_with fail
        go_ret
        exact ⟨rfl, below_drewN HBI.out _⟩
      · rw [if_neg hle] at hu
        have hd : decide (k' - z.2 ≤ 0) = false := decide_eq_false hle
        have HU := hide hu
        clear hu
        go_wp2_with fail
        go_quiet (fail)
        go_wp2_with fail
        go_roundw
        case rel => exact ⟨i + 1, k' - z.2, by omega, by first | rfl | go_num, by go_num, by omega, HU.out, below_drewN HBI.out _, HZI.out⟩
        case measure => exact meas_i hlt (by omega)
    · obtain rfl : i = o.length := by omega
      rw [List.drop_eq_nil_of_le (by rw [ordT_len]; omega)] at hu
      simp only [unitR] at hu
      have HU := hide hu
      clear hu hb hz
      go_wp2_with fail
      go_ret
      exact ⟨by rw [HU.out]; first | rfl | (simp; done), HBI.out⟩

def allR (l : List (Int × Int)) : Int := (l.map Prod.snd).sum
theorem allR_bound : ∀ (l : List (Int × Int)) , (∀ x ∈ l, 1 ≤ x.2 ∧ x.2 ≤ 64) → 0 ≤ allR l ∧ allR l ≤ 64 * l.length
  | [], _ => by simp [allR]
  | x :: l, h => by
    have h1 := allR_bound l (fun y hy => h y (List.mem_cons_of_mem _ hy))
    have h2 := h x List.mem_cons_self
    simp only [allR, List.map_cons, List.sum_cons, List.length_cons] at h1 ⊢
    omega
set_option maxRecDepth 100000 in
set_option maxHeartbeats 4000000 in
theorem all_any (A : Option Addr) (c : Nat) (l : List (Int × Int)) (O : Option Addr) (co : Nat) (o : List Int) (w : World) (h : SideM w A l O o) :
    Calls Try.prog 42 #[.agg #[.slice A l.length c, .slice O o.length co]] w (ValPost (.int .i64 (allR l)) w) := by
  have hal : Below w.heap.size w (w.alloc (.cells #[.slice A l.length c, .slice O o.length co] 72)) := (Below.refl _ _).alloc (Nat.le_refl _) _
  have HB := hide hal
  have HZ : Hid ((w.alloc (.cells #[.slice A l.length c, .slice O o.length co] 72)).heap[w.heap.size]? = some (.cells #[.slice A l.length c, .slice O o.length co] 72 (0, 0))) := hide (heap_alloc_new w _)
  have HM := hide h
  clear hal h
  go_enter Try.func42, Try.ntmps42
  go_wp2_with fail
  generalize w.alloc (.cells #[.slice A l.length c, .slice O o.length co] 72) = w0 at *
  go_loopw [3, 4] (fun nv iv wr => ∃ (i : Nat), i ≤ l.length ∧ nv = .int .i64 (allR (l.take i)) ∧ iv = .int .i64 i ∧ Below w.heap.size w wr ∧ wr.heap[w.heap.size]? = some (.cells #[.slice A l.length c, .slice O o.length co] 72 (0, 0))) (fun _ iv _ => l.length - (intOf iv).toNat)
  case atStart => exact ⟨0, Nat.zero_le _, rfl, rfl, HB.out, HZ.out⟩
  case round =>
    obtain ⟨i, hi, rfl, rfl, hb, hz⟩ := hrel
    have HBI := hide hb
    have HZI := hide hz
    have x0 := cell_of_row _ _ 0 _ _ (0, 0) hz
    simp only [List.getElem?_toArray, List.getElem?_cons_zero] at x0
    by_cases hlt : i < l.length
    · obtain ⟨z, hz1⟩ : ∃ z, l[i]? = some z := ⟨l[i], List.getElem?_eq_getElem hlt⟩
      obtain ⟨b, bo, rfl, hbB, hc⟩ := Wants.at_ HM.out.wl (by omega)
      have c2 := (hb.cell (p := ⟨b, bo + i * 2 + 1, none⟩) hbB).trans (hc i z hz1).2
      have hil : (i : Int) < (l.length : Int) := by omega
      have hts : allR (l.take (i + 1)) = allR (l.take i) + z.2 := by
        unfold allR
        rw [List.take_add_one, hz1]
        simp
      have hbn := allR_bound (l.take (i + 1)) (fun x hx => HM.out.cnt x (List.mem_of_mem_take hx))
      have hln : (l.take (i + 1)).length ≤ 1000000 := by rw [List.length_take]; have := HM.out.len; omega
      have hw : IntKind.i64.wrap (allR (l.take i) + z.2) = allR (l.take (i + 1)) := by rw [hts]; exact Go.IntWalk.i64_in _ (by omega)
      have hk1 : IntKind.i64.wrap ((i : Int) + 1) = ((i + 1 : Nat) : Int) := by rw [Go.IntWalk.i64_in _ (by have := HM.out.len; omega)]; omega
      clear hb hz hc hbB hz1 hts hbn hln
      go_wp2_with fail
      go_roundw
      case rel => exact ⟨i + 1, by omega, by first | rfl | exact congrArg (Value.int .i64) hw, by first | go_num | exact congrArg (Value.int .i64) hk1, HBI.out, HZI.out⟩
      case measure => first | exact meas_i hlt hk1 | exact meas_i hlt (by omega)
    · obtain rfl : i = l.length := by omega
      rw [List.take_length]
      clear hb hz
      go_wp2_with fail
      go_ret
      exact ⟨rfl, HBI.out⟩

/-- The document's shares. -/
def sharesA (n : Nat) (L : List Tri) (K : Int) : List Int := (sharesG L 0 K).foldl (fun o e => o.set e.1.1.toNat e.2.1) (List.replicate n 0)
def leftK : List Tri → Int → Int
  | [], K => K
  | x :: L, K => leftK L (K - min K x.2.2)
theorem sharesG_snoc : ∀ (L : List Tri) (x : Tri) (K : Int), sharesG (L ++ [x]) 0 K = sharesG L 0 K ++ [(x, min (leftK L K) x.2.2, x.2.2)]
  | [], x, K => by simp [sharesG, leftK]
  | y :: L, x, K => by
    simp only [List.cons_append, sharesG, leftK, Int.sub_zero]
    rw [sharesG_snoc L x]
theorem leftK_snoc : ∀ (L : List Tri) (x : Tri) (K : Int), leftK (L ++ [x]) K = leftK L K - min (leftK L K) x.2.2
  | [], x, K => rfl
  | y :: L, x, K => by
    simp only [List.cons_append, leftK]
    rw [leftK_snoc L x]
theorem sharesA_len (n : Nat) (L : List Tri) (K : Int) : (sharesA n L K).length = n := by
  unfold sharesA
  generalize sharesG L 0 K = S
  have : ∀ (S : List (Tri × Int × Int)) (o : List Int), (S.foldl (fun o e => o.set e.1.1.toNat e.2.1) o).length = o.length := by
    intro S
    induction S with
    | nil => intro o; rfl
    | cons e S ih => intro o; rw [List.foldl_cons, ih, List.length_set]
  rw [this, List.length_replicate]
theorem sharesA_snoc (n : Nat) (L : List Tri) (x : Tri) (K : Int) : sharesA n (L ++ [x]) K = (sharesA n L K).set x.1.toNat (min (leftK L K) x.2.2) := by
  unfold sharesA
  rw [sharesG_snoc, List.foldl_append]
  rfl
theorem leftK_bound : ∀ (L : List Tri) (K : Int), CountT L → 0 ≤ K → 0 ≤ leftK L K ∧ leftK L K ≤ K
  | [], K, _, h => ⟨h, Int.le_refl _⟩
  | x :: L, K, hc, h => by
    have h1 := hc x List.mem_cons_self
    have := leftK_bound L (K - min K x.2.2) hc.tail (by omega)
    simp only [leftK]
    omega
def SharesP (o : List Int) (w : World) (e : Ending) (w' : World) : Prop := ∃ g, e = .returned (.slice (some ⟨g, 0, none⟩) o.length o.length) ∧ w.heap.size ≤ g ∧ w'.heap[g]? = some (.cells (rowI o) 3 (0, 0)) ∧ Below w.heap.size w w'
theorem row_cell {W : World} {g : Nat} {l : List Int} (h : W.heap[g]? = some (.cells (rowI l) 3 (0, 0))) {i : Nat} {x : Int} (hx : l[i]? = some x) : W.cell? ⟨g, i, none⟩ = some (.int .i64 x) := by
  rw [cell_of_row W g i _ _ (0, 0) h]
  unfold rowI
  simp [hx]
theorem row_put {W : World} {g : Nat} {l : List Int} (h : W.heap[g]? = some (.cells (rowI l) 3 (0, 0))) (i : Nat) (n : Int) : (W.setCell ⟨g, i, none⟩ (.int .i64 n)).heap[g]? = some (.cells (rowI (l.set i n)) 3 (0, 0)) := by
  rw [setCell_block h i _]
  unfold rowI
  rw [List.setIfInBounds_toArray, List.map_set]
theorem take_snoc {α : Type} {l : List α} {i : Nat} {x : α} (h : l[i]? = some x) : l.take (i + 1) = l.take i ++ [x] := by rw [List.take_add_one, h]; rfl
set_option maxRecDepth 100000 in
set_option maxHeartbeats 4000000 in
theorem shares_any (A : Option Addr) (c : Nat) (l : List (Int × Int)) (O : Option Addr) (co : Nat) (o : List Int) (K : Int) (w : World) (h : SideM w A l O o) (hK : 0 ≤ K ∧ K ≤ 1000000) :
    Calls Try.prog 31 #[.agg #[.slice A l.length c, .slice O o.length co], .int .i64 K] w (SharesP (sharesA l.length (ordT l o) K) w) := by
  have hal : Below w.heap.size w (w.alloc (.cells #[.slice A l.length c, .slice O o.length co] 72)) := (Below.refl _ _).alloc (Nat.le_refl _) _
  have hmk := make_int l.length h.len
  obtain ⟨z0, z1, z2⟩ := two_boxes w (.cells #[.slice A l.length c, .slice O o.length co] 72) (.cells (rowI (List.replicate l.length 0)) 3)
  have HZ0 := hide z0
  have HZ1 := hide z1
  have HZ2 := hide z2
  have HM := hide h
  have x0 := cell_of_row _ _ 0 _ _ (0, 0) (heap_alloc_new w (.cells #[.slice A l.length c, .slice O o.length co] 72))
  simp only [List.getElem?_toArray, List.getElem?_cons_zero] at x0
  have HCT : Hid (CountT (ordT l o)) := hide (fun x hx => by
    unfold ordT at hx
    obtain ⟨who, hw, rfl⟩ := List.mem_map.1 hx
    obtain ⟨h0, h1⟩ := h.inr who hw
    have hk : who.toNat < l.length := by omega
    simp only [List.getD_eq_getElem?_getD, List.getElem?_eq_getElem hk, Option.getD_some]
    exact h.cnt _ (List.getElem_mem hk))
  clear hal h z0 z1 z2
  go_enter Try.func31, Try.ntmps31
  go_wp2_with fail
  clear hmk x0
  generalize (w.alloc (.cells #[.slice A l.length c, .slice O o.length co] 72)).alloc (.cells (rowI (List.replicate l.length 0)) 3) = w0 at *
  go_loopw [1, 6] (fun kv iv wr => ∃ (i : Nat), i ≤ o.length ∧ kv = .int .i64 (leftK ((ordT l o).take i) K) ∧ iv = .int .i64 i ∧ Below w.heap.size w wr ∧ wr.heap[w.heap.size]? = some (.cells #[.slice A l.length c, .slice O o.length co] 72 (0, 0)) ∧ wr.heap[w.heap.size + 1]? = some (.cells (rowI (sharesA l.length ((ordT l o).take i) K)) 3 (0, 0))) (fun _ iv _ => o.length - (intOf iv).toNat)
  case atStart => exact ⟨0, Nat.zero_le _, rfl, rfl, HZ2.out, HZ0.out, HZ1.out⟩
  case round =>
    obtain ⟨i, hi, rfl, rfl, hb, hz, hr⟩ := hrel
    have HBI := hide hb
    have HZI := hide hz
    have HRI := hide hr
    have x0 := cell_of_row _ _ 0 _ _ (0, 0) hz
    have x1 := cell_of_row _ _ 1 _ _ (0, 0) hz
    simp only [List.getElem?_toArray, List.getElem?_cons_zero, List.getElem?_cons_succ] at x0 x1
    by_cases hlt : i < o.length
    · obtain ⟨b, bo, ob, oo, j, z, rfl, rfl, hoj, hlj, hj, hbB, hobB, q0, q1, q2, hcz⟩ := HM.out.at_ hlt
      have c0 := (hb.cell (p := ⟨ob, oo + i, none⟩) hobB).trans q0
      have c2 := (hb.cell (p := ⟨b, bo + j * 2 + 1, none⟩) hbB).trans q2
      have hij : (i : Int) < (o.length : Int) := by omega
      have hjl : (j : Int) < (l.length : Int) := by omega
      have hts := take_snoc (ordT_at hoj hlj)
      have HL1 : Hid (leftK ((ordT l o).take (i + 1)) K = leftK ((ordT l o).take i) K - min (leftK ((ordT l o).take i) K) z.2) := hide (by rw [hts, leftK_snoc])
      have HS1 : Hid (sharesA l.length ((ordT l o).take (i + 1)) K = (sharesA l.length ((ordT l o).take i) K).set j (min (leftK ((ordT l o).take i) K) z.2)) := hide (by rw [hts, sharesA_snoc, Int.toNat_natCast])
      have hlb := leftK_bound ((ordT l o).take i) K (fun x hx => HCT.out x (List.mem_of_mem_take hx)) hK.1
      have hk1 : IntKind.i64.wrap ((i : Int) + 1) = ((i + 1 : Nat) : Int) := by rw [Go.IntWalk.i64_in _ (by have := HM.out.len; have := HM.out.lo; omega)]; omega
      obtain ⟨u, hu⟩ : ∃ u, (sharesA l.length ((ordT l o).take i) K)[j]? = some u := ⟨(sharesA l.length ((ordT l o).take i) K)[j]'(by rw [sharesA_len]; exact hj), List.getElem?_eq_getElem _⟩
      have m0 := row_cell hr hu
      have m1 := frozen_of_row wr (w.heap.size + 1) j _ _ hr
      generalize leftK ((ordT l o).take i) K = k' at *
      obtain ⟨N, hN⟩ : ∃ N, N = min k' z.2 := ⟨_, rfl⟩
      rw [← hN] at HL1 HS1
      have hw : IntKind.i64.wrap (k' - N) = k' - N := Go.IntWalk.i64_in _ (by omega)
      have HNN := hide hN
      clear hb hz hr q0 q1 q2 hoj hlj hbB hobB hts hu hN
      go_upto_region 5 with fail
      go_cut [7] from 19 to 30 (fun nv wx => nv = .int .i64 N ∧ ∃ m, wx = wr.drewN m)
      case first =>
        go_quiet (fail)
        go_wp2_with fail
        all_goals (
          go_meet
          exact ⟨by first | (rw [HNN.out]; done) | (rw [HNN.out]; congr 1; omega), _, rfl⟩)
      case rest =>
      obtain ⟨rfl, m, rfl⟩ := hcut
      go_wp2_with fail
      go_roundw
      case rel =>
        refine ⟨i + 1, by omega, by first | exact congrArg (Value.int .i64) HL1.out.symm | (rw [HL1.out]), by first | go_num | exact congrArg (Value.int .i64) hk1, (below_drewN HBI.out m).setCell (Nat.le_succ _) _, (Below.heap_setCell (wr.drewN m) _ _ _ (by simp)).trans HZI.out, ?_⟩
        rw [HS1.out]
        exact row_put (W := wr.drewN m) HRI.out j N
      case measure => first | exact meas_i hlt hk1 | exact meas_i hlt (by omega)
    · obtain rfl : i = o.length := by omega
      rw [List.take_of_length_le (by rw [ordT_len]; omega)] at HRI
      clear hb hz hr
      go_wp2_with fail
      go_ret
      exact ⟨w.heap.size + 1, by rw [sharesA_len]; rfl, Nat.le_succ _, HRI.out, HBI.out⟩
end Go.Proofs.Ytogicdljbnllgaa
