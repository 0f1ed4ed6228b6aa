/- The walk of the law CallNames. -/
import Derived.Test.YtogicdljbnllgaaKnown
namespace Go.Proofs.Ytogicdljbnllgaa
open Go.Shelf Go.RowKit Go.Lib Go.Sort Go.Proofs

abbrev topW : Int × Int := (1099511627776, 64)
/-- Rows of wants, as cells. -/
def rowW (l : List (Int × Int)) : Array Value := (flat l).toArray
theorem flat_rep (n : Nat) (x : Int × Int) : ∀ i, i < n * 2 → (flat (List.replicate n x))[i]? = some (if i % 2 = 0 then .int .i64 x.1 else .int .i64 x.2) := by
  intro i hi
  have hk : i / 2 < n := by omega
  obtain ⟨h1, h2⟩ := flat_at (List.replicate n x) (i / 2) x (by rw [List.getElem?_replicate, if_pos hk])
  rcases Nat.mod_two_eq_zero_or_one i with h | h
  · rw [if_pos h, ← h1]; congr 1; omega
  · rw [if_neg (by omega), ← h2]; congr 1; omega
theorem made_roww (n : Nat) : madeCells #[.int .i64 0, .int .i64 0] (n * 2) = rowW (List.replicate n (0, 0)) := by
  apply Array.ext_getElem?
  intro i
  have e : (rowW (List.replicate n (0, 0)))[i]? = (flat (List.replicate n (0, 0)))[i]? := by unfold rowW; simp
  rw [e]
  by_cases h : i < n * 2
  · rw [flat_rep n (0, 0) i h]
    have h2 := Nat.mod_lt i (show 0 < 2 by decide)
    rcases Nat.mod_two_eq_zero_or_one i with h3 | h3 <;> simp [madeCells, h, h3]
  · rw [List.getElem?_eq_none (by rw [flat_len, List.length_replicate]; omega)]
    simp [madeCells, h]
theorem make_want (N : Nat) (hN : N ≤ 1000000) (W : World) : (Instr.makeSlice 22 (.int .i64 (N : Int)) (.int .i64 (N : Int))).run Try.prog W = .ok (.slice (some ⟨W.heap.size, 0, none⟩) N N) (W.alloc (.cells (rowW (List.replicate N (0, 0))) 51)) := by
  obtain ⟨i0, hi, hz, hs, hb⟩ := info_parts infoWt
  have := run_make (P := Try.prog) W 22 51 i0 _ Try.underlying22 hi hz .i64 .i64 (N : Int) (N : Int) (by omega) (Int.le_refl _) (by rw [hb]; omega) (by omega)
  rw [Int.toNat_natCast, hs] at this
  rw [← made_roww]
  exact this
theorem flat_set (l : List (Int × Int)) (k : Nat) (x : Int × Int) (hk : k < l.length) : ((flat l).set (k * 2) (.int .i64 x.1)).set (k * 2 + 1) (.int .i64 x.2) = flat (l.set k x) := by
  apply List.ext_getElem?
  intro i
  by_cases hi : i < l.length * 2
  · by_cases he : i / 2 = k
    · obtain ⟨h1, h2⟩ := flat_at (l.set k x) k x (by rw [List.getElem?_set_self hk])
      rcases Nat.mod_two_eq_zero_or_one i with h | h
      · obtain rfl : i = k * 2 := by omega
        rw [h1, List.getElem?_set_ne (by omega), List.getElem?_set_self (by rw [flat_len]; omega)]
      · obtain rfl : i = k * 2 + 1 := by omega
        rw [h2, List.getElem?_set_self (by rw [List.length_set, flat_len]; omega)]
    · rw [List.getElem?_set_ne (by omega), List.getElem?_set_ne (by omega)]
      have hl : i / 2 < l.length := by omega
      obtain ⟨z, hz⟩ : ∃ z, l[i / 2]? = some z := ⟨l[i / 2], List.getElem?_eq_getElem hl⟩
      obtain ⟨h1, h2⟩ := flat_at l (i / 2) z hz
      obtain ⟨h3, h4⟩ := flat_at (l.set k x) (i / 2) z (by rw [List.getElem?_set_ne (fun e => he e.symm)]; exact hz)
      rcases Nat.mod_two_eq_zero_or_one i with h | h
      · obtain ⟨j, hj⟩ : ∃ j, i = j * 2 := ⟨i / 2, by omega⟩
        have : i / 2 = j := by omega
        rw [this] at h1 h3
        rw [hj, h1, h3]
      · obtain ⟨j, hj⟩ : ∃ j, i = j * 2 + 1 := ⟨i / 2, by omega⟩
        have : i / 2 = j := by omega
        rw [this] at h2 h4
        rw [hj, h2, h4]
  · rw [List.getElem?_eq_none (by rw [List.length_set, List.length_set, flat_len]; omega), List.getElem?_eq_none (by rw [flat_len, List.length_set]; omega)]
theorem rep_set {α : Type} (x y : α) : ∀ (k n : Nat), k < n → (List.replicate k x ++ List.replicate (n - k) y).set k x = List.replicate (k + 1) x ++ List.replicate (n - (k + 1)) y := by
  intro k n h
  obtain ⟨m, rfl⟩ : ∃ m, n = k + 1 + m := ⟨n - (k + 1), by omega⟩
  rw [show k + 1 + m - k = m + 1 by omega, show k + 1 + m - (k + 1) = m by omega, List.set_append_right _ _ (by simp), List.length_replicate, Nat.sub_self, List.replicate_succ, List.set_cons_zero, List.replicate_succ' (n := k), List.append_assoc]
  rfl
theorem rowW_set (l : List (Int × Int)) (k : Nat) (x : Int × Int) (hk : k < l.length) : ((rowW l).setIfInBounds (k * 2) (.int .i64 x.1)).setIfInBounds (k * 2 + 1) (.int .i64 x.2) = rowW (l.set k x) := by
  unfold rowW
  rw [List.setIfInBounds_toArray, List.setIfInBounds_toArray, flat_set l k x hk]
theorem wants_take {w : World} {B : Nat} {A : Option Addr} {l : List (Int × Int)} (h : Wants w B A l) (n : Nat) : Wants w B A (l.take n) := by
  refine ⟨flat_len _, fun h0 => ?_⟩
  rw [List.length_take] at h0
  obtain ⟨b, o, e, hb, hc⟩ := h.2 (by omega)
  refine ⟨b, o, e, hb, fun j u hj => hc j u ?_⟩
  rw [← flat_take, List.getElem?_take] at hj
  split at hj
  · exact hj
  · cases hj
theorem check_many : checkI (List.replicate 4097 topW) [] = 3 := by
  unfold checkI
  rw [if_pos (by rw [List.length_replicate]; left; decide)]
theorem check_many' : checkI [] (List.replicate 4097 topW) = 3 := by
  unfold checkI
  rw [if_pos (by rw [List.length_replicate]; right; decide)]
theorem check_most : checkI ((List.replicate 4097 topW).take 4096) [(0, 1)] = 0 := by
  unfold checkI
  rw [if_neg (by rw [List.length_take, List.length_replicate]; decide), if_neg]
  intro h
  rcases h with h | h
  · obtain ⟨x, hx, hb⟩ := List.any_eq_true.1 h
    obtain rfl := List.eq_of_mem_replicate (List.mem_of_mem_take hx)
    exact absurd hb (by decide)
  · exact absurd h (by decide)
theorem check_some : checkI [(1, 65)] [] = 2 ∧ checkI [(1, 0)] [] = 2 ∧ checkI [] [(1099511627777, 1)] = 2 := by decide
theorem wants_nil (w : World) (B : Nat) : Wants w B none [] := ⟨rfl, fun h => absurd h (by decide)⟩
def repK (k : Nat) : List (Int × Int) := List.replicate k topW ++ List.replicate (4097 - k) (0, 0)
theorem repK_len {k : Nat} (h : k ≤ 4097) : (repK k).length = 4097 := by
  unfold repK
  rw [List.length_append, List.length_replicate, List.length_replicate]
  omega
theorem repK_set {k : Nat} (h : k < 4097) : ((rowW (repK k)).setIfInBounds (k * 2) (.int .i64 1099511627776)).setIfInBounds (k * 2 + 1) (.int .i64 64) = rowW (repK (k + 1)) := by
  have := rowW_set (repK k) k topW (by rw [repK_len (by omega)]; exact h)
  rw [this]
  unfold repK
  rw [rep_set topW (0, 0) k 4097 h]
theorem repK_at {k : Nat} (h : k < 4097) : (rowW (repK k))[k * 2]? = some (.int .i64 0) ∧ (rowW (repK k))[k * 2 + 1]? = some (.int .i64 0) := by
  have hk : (repK k)[k]? = some (0, 0) := by
    unfold repK
    rw [List.getElem?_append_right (by simp), List.length_replicate, Nat.sub_self, List.getElem?_replicate, if_pos (by omega)]
  obtain ⟨h1, h2⟩ := flat_at _ _ _ hk
  unfold rowW
  exact ⟨by simpa using h1, by simpa using h2⟩
theorem meas_n {n k : Nat} {z : Int} (h : k < n) (f : z = ((k + 1 : Nat) : Int)) : n - (intOf (.int .i64 z)).toNat < n - (intOf (.int .i64 (k : Int))).toNat := by
  subst f
  simp only [intOf]
  omega

/-- What lies at the last. -/
structure NmS (w : World) (o : Nat) (W : World) : Prop where
  bel : Below w.heap.size w W
  m : W.heap[w.heap.size]? = some (.cells (rowW (repK 4097)) 51 (0, 0))
  o : W.heap[o]? = some (.cells #[.int .i64 0, .int .i64 1] 51 (0, 0))
section
variable {w W W' : World} {o : Nat}
theorem NmS.below (h : NmS w o W) (hb : Below W.heap.size W W') : NmS w o W' := ⟨h.bel.trans (hb.mono h.bel.size), (hb.block _ (lt_of_block h.m)).trans h.m, (hb.block _ (lt_of_block h.o)).trans h.o⟩
theorem NmS.alloc (h : NmS w o W) (x : Obj) : NmS w o (W.alloc x) := h.below ((Below.refl _ _).alloc (Nat.le_refl _) _)
theorem repK_all : repK 4097 = List.replicate 4097 topW := by unfold repK; rw [Nat.sub_self, List.replicate_zero, List.append_nil]
theorem NmS.many (h : NmS w o W) : Wants W W.heap.size (some ⟨w.heap.size, 0, none⟩) (List.replicate 4097 topW) := by
  have := h.m
  rw [repK_all] at this
  exact wants_row this
theorem NmS.c1 (h : NmS w o W) : Calls Try.prog 18 #[.slice (some ⟨w.heap.size, 0, none⟩) 4097 4097, .slice none 0 0] W (IntPost 3 W) := by
  have := check_any (some ⟨w.heap.size, 0, none⟩) 4097 (List.replicate 4097 topW) none 0 [] W h.many (wants_nil _ _)
  rw [check_many, List.length_replicate] at this
  exact this
theorem NmS.c2 (h : NmS w o W) : Calls Try.prog 18 #[.slice none 0 0, .slice (some ⟨w.heap.size, 0, none⟩) 4097 4097] W (IntPost 3 W) := by
  have := check_any none 0 [] (some ⟨w.heap.size, 0, none⟩) 4097 (List.replicate 4097 topW) W (wants_nil _ _) h.many
  rw [check_many', List.length_replicate] at this
  exact this
theorem NmS.c3 (h : NmS w o W) : Calls Try.prog 18 #[.slice (some ⟨w.heap.size, 0, none⟩) 4096 4097, .slice (some ⟨o, 0, none⟩) 1 1] W (IntPost 0 W) := by
  have := check_any (some ⟨w.heap.size, 0, none⟩) 4097 ((List.replicate 4097 topW).take 4096) (some ⟨o, 0, none⟩) 1 [(0, 1)] W (wants_take h.many 4096) (wants_row (l := [(0, 1)]) h.o)
  rw [check_most, List.length_take, List.length_replicate] at this
  exact this
theorem one_b {x y : Int} (h : checkI [(x, y)] [] = 2) : Calls Try.prog 18 #[.slice (some ⟨W.heap.size, 0, none⟩) 1 1, .slice none 0 0] (W.alloc (.cells #[.int .i64 x, .int .i64 y] 51)) (IntPost 2 (W.alloc (.cells #[.int .i64 x, .int .i64 y] 51))) := by
  have := check_any (some ⟨W.heap.size, 0, none⟩) 1 [(x, y)] none 0 [] (W.alloc (.cells #[.int .i64 x, .int .i64 y] 51)) (wants_row (l := [(x, y)]) (heap_alloc_new W _)) (wants_nil _ _)
  rw [h] at this
  exact this
theorem one_s {x y : Int} (h : checkI [] [(x, y)] = 2) : Calls Try.prog 18 #[.slice none 0 0, .slice (some ⟨W.heap.size, 0, none⟩) 1 1] (W.alloc (.cells #[.int .i64 x, .int .i64 y] 51)) (IntPost 2 (W.alloc (.cells #[.int .i64 x, .int .i64 y] 51))) := by
  have := check_any none 0 [] (some ⟨W.heap.size, 0, none⟩) 1 [(x, y)] (W.alloc (.cells #[.int .i64 x, .int .i64 y] 51)) (wants_nil _ _) (wants_row (l := [(x, y)]) (heap_alloc_new W _))
  rw [h] at this
  exact this
theorem split_known (W : World) : Calls Try.prog 23 #[.agg #[.int .i64 3, .int .i64 5, .int .i64 0, .int .i64 0, .slice none 0 0, .slice none 0 0]] W (ValPost (.tuple #[.int .i64 15, .int .i64 15]) W) := by
  have h := split_any 3 5 0 0 (.slice none 0 0) (.slice none 0 0) 0 0 none none rfl rfl W
  have e : wrap64 (3 * 5) = 15 := by unfold wrap64; omega
  simp only [e] at h
  exact h
end

set_option maxRecDepth 100000 in
set_option maxHeartbeats 4000000 in
theorem names_any (w : World) : Calls Try.prog 7 #[] w (ValPost (.bool true) w) := by
  obtain ⟨Z, hZ⟩ : ∃ Z, Z = rowW (repK 0) := ⟨_, rfl⟩
  have hmk : ∀ W, (Instr.makeSlice 22 (.int .i64 4097) (.int .i64 4097)).run Try.prog W = .ok (.slice (some ⟨W.heap.size, 0, none⟩) 4097 4097) (W.alloc (.cells Z 51)) := fun W => by
    rw [hZ]
    exact make_want 4097 (by decide) W
  have HS : Hid (Below w.heap.size w (w.alloc (.cells Z 51)) ∧ (w.alloc (.cells Z 51)).heap[w.heap.size]? = some (.cells (rowW (repK 0)) 51 (0, 0))) := hide ⟨(Below.refl _ _).alloc (Nat.le_refl _) _, by rw [← hZ]; exact heap_alloc_new w _⟩
  clear hZ
  go_enter Try.func7, Try.ntmps7
  go_wp2_with fail
  clear hmk
  generalize w.alloc (.cells Z 51) = w0 at *
  go_loopw [2] (fun iv wr => ∃ k : Nat, k ≤ 4097 ∧ iv = .int .i64 k ∧ Below w.heap.size w wr ∧ wr.heap[w.heap.size]? = some (.cells (rowW (repK k)) 51 (0, 0))) (fun iv _ => 4097 - (intOf iv).toNat)
  case atStart => exact ⟨0, Nat.zero_le _, rfl, HS.out.1, HS.out.2⟩
  case round =>
    obtain ⟨k, hk, rfl, hb, hc⟩ := hrel
    have HB := hide hb
    have HC := hide hc
    clear HS
    by_cases hlt : k < 4097
    · obtain ⟨h1, h2⟩ := repK_at hlt
      have y0 := (cell_of_row wr w.heap.size (k * 2) _ _ (0, 0) hc).trans h1
      have y1 := (cell_of_row wr w.heap.size (k * 2 + 1) _ _ (0, 0) hc).trans h2
      have y2 : ∀ i, wr.frozen? ⟨w.heap.size, i, none⟩ = false := fun i => frozen_of_row wr w.heap.size i _ _ hc
      have hki : (k : Int) < 4097 := by omega
      have hwk : wrap64 ((k : Int) + 1) = ((k + 1 : Nat) : Int) := by unfold wrap64; omega
      clear hb hc h1 h2
      go_wp2_with fail
      refine ⟨⟨k + 1, by omega, by go_num, (HB.out.setCell (Nat.le_refl _) _).setCell (Nat.le_refl _) _, ?_⟩, meas_n hlt (by omega)⟩
      have h1 := setCell_block (setCell_block HC.out (k * 2) (.int .i64 1099511627776)) (k * 2 + 1) (.int .i64 64)
      rw [repK_set hlt] at h1
      exact h1
    · obtain rfl : k = 4097 := by omega
      have hki : ¬ (((4097 : Nat) : Int) < 4097) := by decide
      have HS0 : Hid (NmS w wr.heap.size (wr.alloc (.cells #[.int .i64 0, .int .i64 1] 51))) := hide ⟨hb.alloc hb.size _, (Below.heap_alloc _ _ _ (lt_of_block hc)).trans hc, heap_alloc_new wr _⟩
      clear hb hc HB HC
      go_wp2_with fail
      obtain ⟨o, ho⟩ : ∃ o, o = wr.heap.size := ⟨_, rfl⟩
      generalize wr.alloc (.cells #[.int .i64 0, .int .i64 1] 51) = v0 at *
      rw [← ho] at HS0 ⊢
      clear ho
      refine (split_known v0).mono ?_
      rintro e v1 ⟨rfl, hb1⟩
      have HS1 := hide (HS0.out.below hb1)
      clear hb1 HS0
      go_wp2_with fail
      refine (HS1.out.c1).mono ?_
      rintro e v2 ⟨rfl, hb2⟩
      have HS2 := hide (HS1.out.below hb2)
      clear hb2 HS1
      go_wp2_with fail
      refine (num_any 3 _).mono ?_
      rintro e v3 ⟨rfl, hb3⟩
      have HS3 := hide (HS2.out.below hb3)
      clear hb3 HS2
      go_wp2_with fail
      refine (HS3.out.c2).mono ?_
      rintro e v4 ⟨rfl, hb4⟩
      have HS4 := hide (HS3.out.below hb4)
      clear hb4 HS3
      go_wp2_with fail
      refine (num_any 3 _).mono ?_
      rintro e v5 ⟨rfl, hb5⟩
      have HS5 := hide (HS4.out.below hb5)
      clear hb5 HS4
      go_wp2_with fail
      refine (HS5.out.c3).mono ?_
      rintro e v6 ⟨rfl, hb6⟩
      have HS6 := hide (HS5.out.below hb6)
      clear hb6 HS5
      go_wp2_with fail
      refine (num_any 0 _).mono ?_
      rintro e v7 ⟨rfl, hb7⟩
      have HS7 := hide (HS6.out.below hb7)
      clear hb7 HS6
      go_wp2_with fail
      have HA7 := hide (HS7.out.alloc (.cells #[.int .i64 1, .int .i64 65] 51))
      refine (one_b check_some.1).mono ?_
      rintro e v8 ⟨rfl, hb8⟩
      have HS8 := hide (HA7.out.below hb8)
      clear hb8 HS7
      go_wp2_with fail
      refine (num_any 2 _).mono ?_
      rintro e v9 ⟨rfl, hb9⟩
      have HS9 := hide (HS8.out.below hb9)
      clear hb9 HS8
      go_wp2_with fail
      have HA9 := hide (HS9.out.alloc (.cells #[.int .i64 1, .int .i64 0] 51))
      refine (one_b check_some.2.1).mono ?_
      rintro e v10 ⟨rfl, hb10⟩
      have HS10 := hide (HA9.out.below hb10)
      clear hb10 HS9
      go_wp2_with fail
      refine (num_any 2 _).mono ?_
      rintro e v11 ⟨rfl, hb11⟩
      have HS11 := hide (HS10.out.below hb11)
      clear hb11 HS10
      go_wp2_with fail
      have HA11 := hide (HS11.out.alloc (.cells #[.int .i64 1099511627777, .int .i64 1] 51))
      refine (one_s check_some.2.2).mono ?_
      rintro e v12 ⟨rfl, hb12⟩
      have HS12 := hide (HA11.out.below hb12)
      clear hb12 HS11
      go_wp2_with fail
      refine (num_any 2 _).mono ?_
      rintro e v13 ⟨rfl, hb13⟩
      have HS13 := hide (HS12.out.below hb13)
      clear hb13 HS12
      go_wp2_with fail
      refine (known_any _).mono ?_
      rintro e v14 ⟨rfl, hb14⟩
      have HS14 := hide (HS13.out.below hb14)
      clear hb14 HS13
      go_wp2_with fail
      go_ret
      exact ⟨rfl, HS14.out.bel⟩
end Go.Proofs.Ytogicdljbnllgaa
