/- The walks of offers.Lower and of the reference's Lower and Idle. -/
import Derived.Test.YtkiebjgpghajbaaDoorOffC
namespace Go.Proofs.YtkiebjgpghajbaaDoor
open Go.RowKit Go.Maps
open Go.ChangeMaps Go.WideMaps

def lowO (c : Int) (o : Offer) : Option Offer := if max c 0 < o.2 then some (o.1, o.2 - max c 0) else none
theorem lower_def (c : Int) (l : List Offer) : lowerL c l = l.filterMap (lowO c) := rfl
theorem lower_snoc {c : Int} {l : List Offer} {k : Nat} {o : Offer} (h : l[k]? = some o) : lowerL c (l.take (k + 1)) = lowerL c (l.take k) ++ (lowO c o).toList := by
  rw [List.take_add_one, h, lower_def, lower_def, Option.toList_some, List.filterMap_append]
  cases hl : lowO c o <;> simp [hl]
theorem lower_len (c : Int) (l : List Offer) : (lowerL c l).length ≤ l.length := List.length_filterMap_le _ _
theorem lower_wide {c : Int} {l : List Offer} (hw : OWide l) : OWide (lowerL c l) := by
  intro o ho
  obtain ⟨x, hx, h1⟩ := List.mem_filterMap.1 ho
  have h2 := hw x hx
  split at h1
  · injection h1 with h1
    subst h1
    simp only
    omega
  · cases h1

theorem grown_setB {w : World} {p : Addr} {u : Value} : w.grownBy (w.setCell p u) (some p.block) :=
  ⟨rfl, rfl, rfl, by simp [World.setCell], fun i _ hne => Below.heap_setCell w p u i (fun e => hne (by rw [e]))⟩
set_option maxRecDepth 100000 in
set_option maxHeartbeats 4000000 in
theorem lower_any (c : Int) (hc : -9223372036854775808 ≤ c ∧ c ≤ 9223372036854775807) (A : Option Addr) (cp : Nat) (l : List Offer) (w : World) (h : Offs w w.heap.size A l) (hl : l.length ≤ 1000000) (hw : OWide l) :
    Calls Tryd.prog 33 #[.int .i64 c, .slice A l.length cp] w (ClonePost (lowerL c l) w) := by
  have hat := Offs.at_ h
  have HWD := hide hw
  have HLEN : Hid (∀ k, (lowerL c (l.take k)).length ≤ l.length) := hide (fun k => Nat.le_trans (lower_len _ _) (by simp; omega))
  have K1 : Hid (∀ (x y : Int), ∀ u ∈ [Value.int .u32 x, .int .i64 y], u.oneCell' = true) := hide (fun x y u hu => by simp at hu; rcases hu with rfl | rfl <;> rfl)
  obtain ⟨hc0, hc1⟩ := hc
  clear h hw
  have hcs : c < 0 ∨ 0 ≤ c := by omega
  rcases hcs with hcs | hcs
  all_goals
    go_enter Tryd.func33, Tryd.ntmps33
    go_wp2_with fail
    go_loopw [5, 12] (fun uv iv wr => ∃ (k : Nat) (vv : Value), k ≤ l.length ∧ iv = .int .i64 k ∧ vv = uv ∧ wr.ownsRow w.heap.size 67 2 vv (lowerL c (l.take k)).length (cells2 offV (lowerL c (l.take k))) ∧ Below w.heap.size w wr) (fun _ iv _ => l.length - (intOf iv).toNat)
    case atStart => exact ⟨0, _, Nat.zero_le _, rfl, rfl, World.ownsRow_nil _ _ _ _, Below.refl _ _⟩
    case round =>
      obtain ⟨k, vv, hk, rfl, rfl, hown, hb⟩ := hrel
      have HO := hide hown
      have HB := hide hb
      clear hown hb
      by_cases hlt : k < l.length
      · obtain ⟨b, o, rfl, hbB, hcc⟩ := hat (by omega)
        obtain ⟨x, hx⟩ : ∃ x, l[k]? = some x := ⟨l[k], List.getElem?_eq_getElem hlt⟩
        obtain ⟨hc0', hc1'⟩ := hcc k x hx
        have d0 := (HB.out.cell (p := ⟨b, o + k * 2, none⟩) hbB).trans hc0'
        have d1 := (HB.out.cell (p := ⟨b, o + k * 2 + 1, none⟩) hbB).trans hc1'
        have HSU := hide (lower_snoc (c := c) hx)
        have hxb := (HWD.out x (List.mem_of_getElem? hx)).2
        have hki : (k : Int) < (l.length : Int) := by omega
        have HB2 : Hid (Below w.heap.size w (wr.alloc (.cells #[.int .u32 (x.1 : Int), .int .i64 x.2] 67))) := hide (HB.out.alloc HB.out.size _)
        have HO2 : Hid ((wr.alloc (.cells #[.int .u32 (x.1 : Int), .int .i64 x.2] 67)).ownsRow w.heap.size 67 2 vv (lowerL c (l.take k)).length (cells2 offV (lowerL c (l.take k)))) := hide (own_below HO.out ((Below.refl _ _).alloc (Nat.le_refl _) _) (Nat.le_refl _))
        have HX2 : Hid ((wr.alloc (.cells #[.int .u32 (x.1 : Int), .int .i64 x.2] 67)).heap[wr.heap.size]? = some (.cells #[.int .u32 (x.1 : Int), .int .i64 x.2] 67 (0, 0))) := hide (heap_alloc_new wr _)
        have HLK := HLEN.out k
        have K2 : Hid ((lowerL c (l.take k)).length + 1 ≤ maxLen) := hide (by unfold maxLen; omega)
        have K3 : Hid (((lowerL c (l.take k)).length + 1) * 16 ≤ 140737488355328) := hide (by omega)
        clear hc0' hc1' hcc hat hx
        obtain ⟨xg, xc⟩ := x
        simp only at d0 d1 hxb HB2 HO2 HX2
        obtain ⟨hxb0, hxb1⟩ := hxb
        by_cases h1 : (c < 0 ∧ 0 < xc) ∨ (0 ≤ c ∧ c < xc)
        · have HN : Hid (∀ y : Int, y = xc - max c 0 → lowerL c (l.take (k + 1)) = lowerL c (l.take k) ++ [(xg, y)]) := hide (fun y hy => by
            have hm : max c 0 < xc := by omega
            rw [HSU.out, hy]; simp [lowO, hm])
          first | (have h2 : 0 < xc := by omega) | skip
          first | (have h3 : c < xc := by omega) | skip
          have hnm : ∀ a b : Int, -9223372036854775808 ≤ a - b → a - b ≤ 9223372036854775807 → IntKind.i64.wrap (a - b) = a - b := fun a b h1 h2 => Go.IntWalk.i64_in _ ⟨h1, h2⟩
          clear h1
          go_upto_region 7 with fail
          generalize wr.alloc (.cells #[.int .u32 (xg : Int), .int .i64 xc] 67) = w2 at *
          have y0 : w2.cell? ⟨wr.heap.size, 0, none⟩ = some (.int .u32 (xg : Int)) := cell_of_row w2 wr.heap.size 0 _ _ (0, 0) HX2.out
          have y1 : w2.cell? ⟨wr.heap.size, 1, none⟩ = some (.int .i64 xc) := cell_of_row w2 wr.heap.size 1 _ _ (0, 0) HX2.out
          have K4 : Hid (w.heap.size ≤ w2.heap.size) := hide HB2.out.size
          clear hnm
          go_wp2_with (at_builtin; refine wpList_app rfl (.tmp 20) (.tmp 28) 22 rfl w.heap.size (.agg #[.int .u32 0, .int .i64 0]) 2 16 infoO Tryd.underlying22 rfl (by decide) _ _ _ rfl HO2.out 1 1 rfl rfl (K1.out _ _) K2.out K3.out K4.out ?_; intro v4 w4 hown4 hg4 hlt4 _; have HO4 := hide hown4; have HB4 : Hid (Below w.heap.size w w4) := hide (HB2.out.grown hg4 HB2.out.size (fun j hj => (HO2.out.lt j hj).1)); clear hown4 hg4 hlt4)
          go_roundw
          case rel =>
            refine ⟨k + 1, v4, by omega, by go_num, rfl, ?_, HB4.out⟩
            first | rw [HN.out xc (by omega), List.length_append, List.length_singleton, cells2_append] | rw [HN.out (xc - c) (by omega), List.length_append, List.length_singleton, cells2_append]
            exact HO4.out
          case measure => simp [intOf]; omega
        · have HN : Hid (lowerL c (l.take (k + 1)) = lowerL c (l.take k)) := hide (by
            have hm : ¬ max c 0 < xc := by omega
            rw [HSU.out]; simp [lowO, hm])
          first | (have h2 : xc ≤ 0 := by omega) | (have h2 : xc ≤ c := by omega)
          clear h1
          go_wp2_with fail
          go_roundw
          case rel =>
            refine ⟨k + 1, vv, by omega, by go_num, rfl, ?_, HB2.out⟩
            rw [HN.out]
            exact HO2.out
          case measure => simp [intOf]; omega
      · obtain rfl : k = l.length := by omega
        have HO2 := HO.out
        rw [List.take_of_length_le (Nat.le_refl _)] at HO2
        obtain ⟨A2, c2, rfl, _⟩ := own_sh HO2
        have HO3 := hide HO2
        clear HO2
        go_wp2_with fail
        go_ret
        exact ⟨A2, c2, rfl, HO3.out, HB.out⟩
set_option maxRecDepth 100000 in
set_option maxHeartbeats 4000000 in
theorem reflower_any (c : Int) (hc : -9223372036854775808 ≤ c ∧ c ≤ 9223372036854775807) (A : Option Addr) (cp : Nat) (l : List Offer) (w : World) (h : Offs w w.heap.size A l) (hl : l.length ≤ 1000000) (hw : OWide l) :
    Calls Tryd.prog 35 #[.int .i64 c, .slice A l.length cp] w (ClonePost (lowerL c l) w) := by
  have hat := Offs.at_ h
  have HWD := hide hw
  have HLEN : Hid (∀ k, (lowerL c (l.take k)).length ≤ l.length) := hide (fun k => Nat.le_trans (lower_len _ _) (by simp; omega))
  have K1 : Hid (∀ (x y : Int), ∀ u ∈ [Value.int .u32 x, .int .i64 y], u.oneCell' = true) := hide (fun x y u hu => by simp at hu; rcases hu with rfl | rfl <;> rfl)
  obtain ⟨hc0, hc1⟩ := hc
  clear h hw
  have hcs : c ≤ 0 ∨ 0 < c := by omega
  rcases hcs with hcs | hcs
  all_goals
    go_enter Tryd.func35, Tryd.ntmps35
    go_wp2_with fail
    go_loopw [5, 6] (fun uv iv wr => ∃ (k : Nat) (vv : Value), k ≤ l.length ∧ iv = .int .i64 k ∧ vv = uv ∧ wr.ownsRow w.heap.size 67 2 vv (lowerL c (l.take k)).length (cells2 offV (lowerL c (l.take k))) ∧ Below w.heap.size w wr) (fun _ iv _ => l.length - (intOf iv).toNat)
    case atStart => exact ⟨0, _, Nat.zero_le _, rfl, rfl, World.ownsRow_nil _ _ _ _, Below.refl _ _⟩
    case round =>
      obtain ⟨k, vv, hk, rfl, rfl, hown, hb⟩ := hrel
      have HO := hide hown
      have HB := hide hb
      clear hown hb
      by_cases hlt : k < l.length
      · obtain ⟨b, o, rfl, hbB, hcc⟩ := hat (by omega)
        obtain ⟨x, hx⟩ : ∃ x, l[k]? = some x := ⟨l[k], List.getElem?_eq_getElem hlt⟩
        obtain ⟨hc0', hc1'⟩ := hcc k x hx
        have d0 := (HB.out.cell (p := ⟨b, o + k * 2, none⟩) hbB).trans hc0'
        have d1 := (HB.out.cell (p := ⟨b, o + k * 2 + 1, none⟩) hbB).trans hc1'
        have HSU := hide (lower_snoc (c := c) hx)
        have hxb := (HWD.out x (List.mem_of_getElem? hx)).2
        have hki : (k : Int) < (l.length : Int) := by omega
        have HB2 : Hid (Below w.heap.size w (wr.alloc (.cells #[.int .u32 (x.1 : Int), .int .i64 x.2] 67))) := hide (HB.out.alloc HB.out.size _)
        have HO2 : Hid ((wr.alloc (.cells #[.int .u32 (x.1 : Int), .int .i64 x.2] 67)).ownsRow w.heap.size 67 2 vv (lowerL c (l.take k)).length (cells2 offV (lowerL c (l.take k)))) := hide (own_below HO.out ((Below.refl _ _).alloc (Nat.le_refl _) _) (Nat.le_refl _))
        have HX2 : Hid ((wr.alloc (.cells #[.int .u32 (x.1 : Int), .int .i64 x.2] 67)).heap[wr.heap.size]? = some (.cells #[.int .u32 (x.1 : Int), .int .i64 x.2] 67 (0, 0))) := hide (heap_alloc_new wr _)
        have HLK := HLEN.out k
        have K2 : Hid ((lowerL c (l.take k)).length + 1 ≤ maxLen) := hide (by unfold maxLen; omega)
        have K3 : Hid (((lowerL c (l.take k)).length + 1) * 16 ≤ 140737488355328) := hide (by omega)
        clear hc0' hc1' hcc hat hx
        obtain ⟨xg, xc⟩ := x
        simp only at d0 d1 hxb HB2 HO2 HX2
        obtain ⟨hxb0, hxb1⟩ := hxb
        by_cases h0 : xc < 1
        · have HN : Hid (lowerL c (l.take (k + 1)) = lowerL c (l.take k)) := hide (by
            have hm : ¬ max c 0 < xc := by omega
            rw [HSU.out]; simp [lowO, hm])
          go_wp2_with fail
          go_roundw
          case rel =>
            refine ⟨k + 1, vv, by omega, by go_num, rfl, ?_, HB2.out⟩
            rw [HN.out]
            exact HO2.out
          case measure => simp [intOf]; omega
        · have h1 : ¬ (0 < c ∧ xc ≤ c) ∨ (0 < c ∧ xc ≤ c) := by omega
          rcases h1 with h1 | h1
          · have HN : Hid (∀ y : Int, y = xc - max c 0 → lowerL c (l.take (k + 1)) = lowerL c (l.take k) ++ [(xg, y)]) := hide (fun y hy => by
              have hm : max c 0 < xc := by omega
              rw [HSU.out, hy]; simp [lowO, hm])
            have d9 : decide (xc < 1) = false := decide_eq_false h0
            first | (have h3 : ¬ xc ≤ c := by omega) | skip
            clear h1
            go_upto_region 7 with fail
            generalize wr.alloc (.cells #[.int .u32 (xg : Int), .int .i64 xc] 67) = w2 at *
            have y0 : w2.cell? ⟨wr.heap.size, 0, none⟩ = some (.int .u32 (xg : Int)) := cell_of_row w2 wr.heap.size 0 _ _ (0, 0) HX2.out
            have y1 : w2.cell? ⟨wr.heap.size, 1, none⟩ = some (.int .i64 xc) := cell_of_row w2 wr.heap.size 1 _ _ (0, 0) HX2.out
            have y2 : w2.frozen? ⟨wr.heap.size, 1, none⟩ = false := frozen_of_row w2 wr.heap.size 1 _ _ HX2.out
            have K4 : Hid (w.heap.size ≤ w2.heap.size) := hide HB2.out.size
            go_upto_region 9 with fail
            rcases Int.lt_or_le 0 c with hpos | hneg
            · first
              | (exfalso; omega)
              | (
               have HB5 : Hid (Below w.heap.size w (w2.setCell ⟨wr.heap.size, 1, none⟩ (.int .i64 (xc - c)))) := hide (HB2.out.setCell HB.out.size _)
               have HO5 : Hid ((w2.setCell ⟨wr.heap.size, 1, none⟩ (.int .i64 (xc - c))).ownsRow w.heap.size 67 2 vv (lowerL c (l.take k)).length (cells2 offV (lowerL c (l.take k)))) := hide (own_far HO2.out grown_setB (.inl (fun e => Nat.lt_irrefl _ (HO.out.lt _ e).2)))
               have HX5 : Hid ((w2.setCell ⟨wr.heap.size, 1, none⟩ (.int .i64 (xc - c))).heap[wr.heap.size]? = some (.cells #[.int .u32 (xg : Int), .int .i64 (xc - c)] 67 (0, 0))) := hide (setCell_block HX2.out 1 _)
               clear y0 y1 y2
               generalize w2.setCell ⟨wr.heap.size, 1, none⟩ (.int .i64 (xc - c)) = w5 at *
               have y0 : w5.cell? ⟨wr.heap.size, 0, none⟩ = some (.int .u32 (xg : Int)) := cell_of_row w5 wr.heap.size 0 _ _ (0, 0) HX5.out
               have y1 : w5.cell? ⟨wr.heap.size, 1, none⟩ = some (.int .i64 (xc - c)) := cell_of_row w5 wr.heap.size 1 _ _ (0, 0) HX5.out
               have K5 : Hid (w.heap.size ≤ w5.heap.size) := hide HB5.out.size
               go_wp2_with (at_builtin; refine wpList_app rfl (.tmp 38) (.tmp 40) 22 rfl w.heap.size (.agg #[.int .u32 0, .int .i64 0]) 2 16 infoO Tryd.underlying22 rfl (by decide) _ _ _ rfl HO5.out 1 1 rfl rfl (K1.out _ _) K2.out K3.out K5.out ?_; intro v4 w4 hown4 hg4 hlt4 _; have HO4 := hide hown4; have HB4 : Hid (Below w.heap.size w w4) := hide (HB5.out.grown hg4 HB5.out.size (fun j hj => (HO5.out.lt j hj).1)); clear hown4 hg4 hlt4)
               go_roundw
               case rel =>
                 refine ⟨k + 1, v4, by omega, by go_num, rfl, ?_, HB4.out⟩
                 rw [HN.out (xc - c) (by omega), List.length_append, List.length_singleton, cells2_append]
                 exact HO4.out
               case measure => simp [intOf]; omega)
            · first
              | (exfalso; omega)
              | (
               go_wp2_with (at_builtin; refine wpList_app rfl (.tmp 38) (.tmp 40) 22 rfl w.heap.size (.agg #[.int .u32 0, .int .i64 0]) 2 16 infoO Tryd.underlying22 rfl (by decide) _ _ _ rfl HO2.out 1 1 rfl rfl (K1.out _ _) K2.out K3.out K4.out ?_; intro v4 w4 hown4 hg4 hlt4 _; have HO4 := hide hown4; have HB4 : Hid (Below w.heap.size w w4) := hide (HB2.out.grown hg4 HB2.out.size (fun j hj => (HO2.out.lt j hj).1)); clear hown4 hg4 hlt4)
               go_roundw
               case rel =>
                 refine ⟨k + 1, v4, by omega, by go_num, rfl, ?_, HB4.out⟩
                 rw [HN.out xc (by omega), List.length_append, List.length_singleton, cells2_append]
                 exact HO4.out
               case measure => simp [intOf]; omega)
          · have HN : Hid (lowerL c (l.take (k + 1)) = lowerL c (l.take k)) := hide (by
              have hm : ¬ max c 0 < xc := by omega
              rw [HSU.out]; simp [lowO, hm])
            have d9 : decide (xc < 1) = false := decide_eq_false h0
            obtain ⟨h2, h3⟩ := h1
            first
            | (exfalso; omega)
            | (go_wp2_with fail
               go_roundw
               case rel =>
                 refine ⟨k + 1, vv, by omega, by go_num, rfl, ?_, HB2.out⟩
                 rw [HN.out]
                 exact HO2.out
               case measure => simp [intOf]; omega)
      · obtain rfl : k = l.length := by omega
        have HO2 := HO.out
        rw [List.take_of_length_le (Nat.le_refl _)] at HO2
        obtain ⟨A2, c2, rfl, _⟩ := own_sh HO2
        have HO3 := hide HO2
        clear HO2
        go_wp2_with fail
        go_ret
        exact ⟨A2, c2, rfl, HO3.out, HB.out⟩
set_option maxRecDepth 100000 in
set_option maxHeartbeats 4000000 in
theorem refidle_any (A : Option Addr) (c : Nat) (l : List Offer) (i : Int) (w : World) (h : Offs w w.heap.size A l) (hl : l.length ≤ 1000000) (hw : OWide l) :
    Calls Tryd.prog 31 #[.slice A l.length c, .int .i64 i] w (ValPost (.bool (idleB l i)) w) := by
  have hat := Offs.at_ h
  have HWD := hide hw
  clear h hw
  by_cases h1 : i < 0
  · have HR : Hid (idleB l i = false) := hide (idle_low (.inl h1))
    go_enter Tryd.func31, Tryd.ntmps31
    go_wp2_with fail
    go_ret
    exact ⟨by rw [HR.out]; rfl, Below.refl _ _⟩
  · have d1 : decide (i < 0) = false := decide_eq_false h1
    by_cases h2 : (l.length : Int) ≤ i
    · have HR : Hid (idleB l i = false) := hide (idle_low (.inr h2))
      clear h1
      go_enter Tryd.func31, Tryd.ntmps31
      go_wp2_with fail
      go_ret
      exact ⟨by rw [HR.out]; rfl, Below.refl _ _⟩
    · have d2 : decide ((l.length : Int) ≤ i) = false := decide_eq_false h2
      obtain ⟨n, rfl⟩ : ∃ n : Nat, i = n := ⟨i.toNat, by omega⟩
      have hnl : n < l.length := by omega
      obtain ⟨b, o, rfl, hbB, hcc⟩ := hat (by omega)
      obtain ⟨a, ha⟩ : ∃ a, l[n]? = some a := ⟨l[n], List.getElem?_eq_getElem hnl⟩
      have HI := hide (idle_at ha)
      obtain ⟨hc0, hc1⟩ := hcc n a ha
      have HCC : Hid (∀ (k : Nat) (x : Offer) (W : World), Below w.heap.size w W → l[k]? = some x → W.cell? ⟨b, o + k * 2, none⟩ = some (.int .u32 (x.1 : Int)) ∧ W.cell? ⟨b, o + k * 2 + 1, none⟩ = some (.int .i64 x.2)) := hide (fun k x W hW hx => ⟨(hW.cell (p := ⟨b, o + k * 2, none⟩) hbB).trans (hcc k x hx).1, (hW.cell (p := ⟨b, o + k * 2 + 1, none⟩) hbB).trans (hcc k x hx).2⟩)
      have ha32 := (HWD.out a (List.mem_of_getElem? ha)).1
      have hni : (n : Int) < (l.length : Int) := by omega
      obtain ⟨ag, ac⟩ := a
      simp only at hc0 hc1 ha32
      clear hcc hat ha h1 h2
      by_cases h3 : ac < 1
      · have HR : Hid (idleB l n = false) := hide (by rw [HI.out]; unfold idleN; rw [if_pos h3])
        go_enter Tryd.func31, Tryd.ntmps31
        go_wp2_with fail
        go_ret
        exact ⟨by rw [HR.out]; rfl, Below.refl _ _⟩
      · have d3 : decide (ac < 1) = false := decide_eq_false h3
        have HR : Hid (idleB l n = anyFrom (aheadB n (ag, ac)) 0 l) := hide (by rw [HI.out]; unfold idleN; rw [if_neg h3])
        generalize idleB l n = R at *
        clear h3
        go_enter Tryd.func31, Tryd.ntmps31
        go_upto_region 4 with fail
        have HB2 : Hid (Below w.heap.size w (w.alloc (.cells #[.int .u32 (ag : Int), .int .i64 ac] 67))) := hide ((Below.refl _ _).alloc (Nat.le_refl _) _)
        have HP2 : Hid ((w.alloc (.cells #[.int .u32 (ag : Int), .int .i64 ac] 67)).heap[w.heap.size]? = some (.cells #[.int .u32 (ag : Int), .int .i64 ac] 67 (0, 0))) := hide (heap_alloc_new w _)
        generalize w.alloc (.cells #[.int .u32 (ag : Int), .int .i64 ac] 67) = w2 at *
        have HL2 : Hid (w.heap.size < w2.heap.size) := hide (lt_of_block HP2.out)
        clear hc0 hc1
        go_wp2_with fail
        go_loopw [6] (fun iv wr => ∃ k : Nat, k ≤ l.length ∧ iv = .int .i64 k ∧ R = anyFrom (aheadB n (ag, ac)) k (l.drop k) ∧ Below w2.heap.size w2 wr) (fun iv _ => l.length - (intOf iv).toNat)
        case atStart => exact ⟨0, Nat.zero_le _, rfl, HR.out, Below.refl _ _⟩
        case round =>
          obtain ⟨k, hk, rfl, hR, hbr⟩ := hrel
          have HRK := hide hR
          have HBR := hide hbr
          clear hR hbr
          by_cases hlt : k < l.length
          · obtain ⟨x, hx⟩ : ∃ x, l[k]? = some x := ⟨l[k], List.getElem?_eq_getElem hlt⟩
            have HBW : Hid (Below w.heap.size w wr) := hide (HB2.out.trans (HBR.out.mono HB2.out.size))
            obtain ⟨d0, d1⟩ := HCC.out k x wr HBW.out hx
            have hx32 := (HWD.out x (List.mem_of_getElem? hx)).1
            have HST := hide (any_step (p := aheadB n (ag, ac)) hx)
            obtain ⟨xg, xc⟩ := x
            simp only at d0 d1 hx32
            have hki : (k : Int) < (l.length : Int) := by omega
            have HAH : Hid (aheadB n (ag, ac) k (xg, xc) = if k = n ∨ xc < 1 ∨ withinB xg ag = false ∨ xc < ac then false else if (xg, xc) = (ag, ac) then decide (k < n) else true) := hide rfl
            have HBA : Hid (Below w2.heap.size w2 (wr.alloc (.cells #[.int .u32 (xg : Int), .int .i64 xc] 67))) := hide (HBR.out.alloc HBR.out.size _)
            have hp2 := (HBR.out.block _ HL2.out).trans HP2.out
            have b0 : ∀ ob, (wr.alloc ob).cell? ⟨w.heap.size, 0, none⟩ = some (.int .u32 (ag : Int)) := fun ob => (World.cell?_alloc_lt wr ob ⟨w.heap.size, 0, none⟩ (lt_of_block hp2)).trans (cell_of_row _ _ 0 _ _ (0, 0) hp2)
            have b1 : ∀ ob, (wr.alloc ob).cell? ⟨w.heap.size, 1, none⟩ = some (.int .i64 ac) := fun ob => (World.cell?_alloc_lt wr ob ⟨w.heap.size, 1, none⟩ (lt_of_block hp2)).trans (cell_of_row _ _ 1 _ _ (0, 0) hp2)
            have hba := andNot_lessG xg ag hx32 ha32
            have hz : (((lessG xg ag : Nat) : Int) == 0) = withinB xg ag := by rw [u32_beq]; rfl
            have hz2 : (((lessG xg ag : Nat) : Int) != 0) = !withinB xg ag := by rw [bne, hz]
            generalize withinB xg ag = wb at *
            generalize lessG xg ag = lg at *
            generalize aheadB n (ag, ac) k (xg, xc) = q at *
            clear hx hp2
            have hqs : q = false ∨ q = true := by cases q <;> simp
            by_cases hkn : k = n
            · have hq : q = false := by rw [HAH.out, if_pos (.inl hkn)]
              have HN : Hid (R = anyFrom (aheadB n (ag, ac)) (k + 1) (l.drop (k + 1))) := hide (by rw [HRK.out, HST.out, hq, Bool.false_or])
              have e1 : ((k : Int) == (n : Int)) = true := by simp [hkn]
              clear hkn hq hqs
              go_wp2_with fail
              go_roundw
              case rel => exact ⟨k + 1, by omega, by go_num, HN.out, HBA.out⟩
              case measure => simp [intOf]; omega
            · have e1 : ((k : Int) == (n : Int)) = false := by simp; omega
              by_cases hx1 : xc < 1
              · have hq : q = false := by rw [HAH.out, if_pos (.inr (.inl hx1))]
                have HN : Hid (R = anyFrom (aheadB n (ag, ac)) (k + 1) (l.drop (k + 1))) := hide (by rw [HRK.out, HST.out, hq, Bool.false_or])
                clear hkn hq hqs
                go_wp2_with fail
                go_roundw
                case rel => exact ⟨k + 1, by omega, by go_num, HN.out, HBA.out⟩
                case measure => simp [intOf]; omega
              · have e2 : decide (xc < 1) = false := decide_eq_false hx1
                cases wb
                · have hq : q = false := by rw [HAH.out, if_pos (.inr (.inr (.inl rfl)))]
                  have HN : Hid (R = anyFrom (aheadB n (ag, ac)) (k + 1) (l.drop (k + 1))) := hide (by rw [HRK.out, HST.out, hq, Bool.false_or])
                  clear hkn hq hqs
                  go_wp2_with fail
                  go_roundw
                  case rel => exact ⟨k + 1, by omega, by go_num, HN.out, HBA.out⟩
                  case measure => simp [intOf]; omega
                · by_cases hca : xc < ac
                  · have hq : q = false := by rw [HAH.out, if_pos (.inr (.inr (.inr hca)))]
                    have HN : Hid (R = anyFrom (aheadB n (ag, ac)) (k + 1) (l.drop (k + 1))) := hide (by rw [HRK.out, HST.out, hq, Bool.false_or])
                    have e4 : (xc == ac) = false := by simp; omega
                    clear hkn hq hqs
                    go_wp2_with fail
                    go_roundw
                    case rel => exact ⟨k + 1, by omega, by go_num, HN.out, HBA.out⟩
                    case measure => simp [intOf]; omega
                  · have HQ2 : Hid (q = if (xg, xc) = (ag, ac) then decide (k < n) else true) := hide (by rw [HAH.out, if_neg (by simp; omega)])
                    by_cases hlt2 : ac < xc
                    · have hq : q = true := by rw [HQ2.out, if_neg (by simp; omega)]
                      have HN : Hid (R = true) := hide (by rw [HRK.out, HST.out, hq, Bool.true_or])
                      clear hkn hq hqs
                      go_wp2_with fail
                      go_ret
                      exact ⟨by rw [HN.out]; rfl, HB2.out.trans (HBA.out.mono HB2.out.size)⟩
                    · obtain rfl : xc = ac := by omega
                      by_cases hgg : xg = ag
                      · subst hgg
                        have hq : q = decide (k < n) := by rw [HQ2.out, if_pos rfl]
                        have e5 : ((xg : Int) != (xg : Int)) = false := by simp
                        by_cases hkl : k < n
                        · have HN : Hid (R = true) := hide (by rw [HRK.out, HST.out, hq, decide_eq_true hkl, Bool.true_or])
                          have e6 : (k : Int) < (n : Int) := by omega
                          clear hkn hq hqs hkl
                          go_wp2_with fail
                          go_ret
                          exact ⟨by rw [HN.out]; rfl, HB2.out.trans (HBA.out.mono HB2.out.size)⟩
                        · have HN : Hid (R = anyFrom (aheadB n (xg, xc)) (k + 1) (l.drop (k + 1))) := hide (by rw [HRK.out, HST.out, hq, decide_eq_false hkl, Bool.false_or])
                          have e6 : ¬ (k : Int) < (n : Int) := by omega
                          clear hkn hq hqs hkl
                          go_wp2_with fail
                          go_roundw
                          case rel => exact ⟨k + 1, by omega, by go_num, HN.out, HBA.out⟩
                          case measure => simp [intOf]; omega
                      · have hq : q = true := by rw [HQ2.out, if_neg (by simp [hgg])]
                        have HN : Hid (R = true) := hide (by rw [HRK.out, HST.out, hq, Bool.true_or])
                        have e5 : ((xg : Int) != (ag : Int)) = true := by simp; omega
                        clear hkn hq hqs hgg
                        go_wp2_with fail
                        go_ret
                        exact ⟨by rw [HN.out]; rfl, HB2.out.trans (HBA.out.mono HB2.out.size)⟩
          · obtain rfl : k = l.length := by omega
            have HN : Hid (R = false) := hide (by rw [HRK.out, any_end])
            go_wp2_with fail
            go_ret
            exact ⟨by rw [HN.out]; rfl, HB2.out.trans (HBR.out.mono HB2.out.size)⟩
end Go.Proofs.YtkiebjgpghajbaaDoor
