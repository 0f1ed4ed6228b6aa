/- The law SealedSells: its walk. -/
import Derived.Test.YtnidmoljhopcoaaSellsC
import Derived.Test.YtnidmoljhopcoaaWorks
namespace Go.Proofs.Ytnidmoljhopcoaa
open Go.RowKit

theorem bids_lent {w : World} {B g c : Nat} {l : List (Int × Int)} (h : w.ownsRow B 33 2 (.slice (some ⟨g, 0, none⟩) (l.length + 1) c) (l.length + 1) (flat l ++ [.int .i64 (-77), .int .i64 0])) : Bids w w.heap.size (some ⟨g, 0, none⟩) l := by
  have h5 := Reads.front (Reads.of_own h) (k := l.length) (by omega)
  rw [List.take_left' (by rw [flat_len])] at h5
  exact h5

/-- What the law's own memory holds. -/
structure SLm (w : World) (B g cm p q : Nat) (l : List (Int × Int)) (cs : Array Value) (W : World) : Prop where
  row : W.ownsRow B 33 2 (.slice (some ⟨g, 0, none⟩) (l.length + 1) cm) (l.length + 1) (flat l ++ [.int .i64 (-77), .int .i64 0])
  s : W.heap[p]? = some (.cells cs 27 (0, 0))
  t : W.heap[q]? = some (.cells cs 27 (0, 0))
  bel : Below w.heap.size w W
theorem SLm.below {w W W' : World} {B g cm p q : Nat} {l : List (Int × Int)} {cs : Array Value} (h : SLm w B g cm p q l cs W) (hb : Below W.heap.size W W') : SLm w B g cm p q l cs W' :=
  ⟨own_below h.row hb (Nat.le_refl _), (hb.block _ (lt_of_block h.s)).trans h.s, (hb.block _ (lt_of_block h.t)).trans h.t, h.bel.trans (hb.mono h.bel.size)⟩

set_option maxRecDepth 100000 in
set_option maxHeartbeats 2000000 in
theorem sells_long (floor : Int) (A : Option Addr) (n c : Nat) (w : World) (hl : 300 < n) :
    Calls Try.prog 5 #[.int .i64 floor, .slice A n c] w (ValPost (.bool true) w) := by
  have hz : (300 : Int) < (n : Int) := by omega
  have hz2 : decide ((n : Int) > 300) = true := decide_eq_true hz
  go_enter Try.func5, Try.ntmps5
  go_wp2_with (go_at_call 6; refine (works_any _).mono ?_; rintro e w1 ⟨rfl, hb1⟩)
  go_ret
  exact ⟨rfl, hb1⟩

set_option maxRecDepth 100000 in
set_option maxHeartbeats 8000000 in
theorem sells_any (floor : Int) (A : Option Addr) (c : Nat) (l : List (Int × Int)) (w : World) (h : Bids w w.heap.size A l) (hl : l.length ≤ 300) (hw : Wide l) :
    Calls Try.prog 5 #[.int .i64 floor, .slice A l.length c] w (ValPost (.bool true) w) := by
  have HBI : Hid (∀ W, Below w.heap.size w W → Bids W W.heap.size A l) := hide (fun W hW => (h.below hW).more hW.size)
  have HL := hide (lent_any A c l w h (by omega))
  have HRS : Hid (∀ W, Below w.heap.size w W → Calls Try.prog 18 #[.int .i64 floor, .slice A l.length c] W (ValPost (pairV (sellI floor l)) W)) := hide (fun W hW => refsell_any floor A c l W ((h.below hW).more hW.size) (by omega))
  have HSL : Hid (∀ W g cm, Bids W W.heap.size (some ⟨g, 0, none⟩) l → Calls Try.prog 7 #[.int .i64 floor, .slice (some ⟨g, 0, none⟩) l.length cm] W (ValPost (pairV (sellI floor l)) W)) := hide (fun W g cm hW => sell_any floor _ cm l W hW (by omega) hw)
  have hz : ¬ (300 : Int) < (l.length : Int) := by omega
  have hz2 : decide ((l.length : Int) > 300) = false := decide_eq_false (by omega)
  obtain ⟨sv, hsv⟩ : ∃ sv, sv = sellI floor l := ⟨_, rfl⟩
  rw [← hsv] at HRS HSL
  obtain ⟨⟨y1, y2, y3, y4⟩, ye⟩ := sv
  simp only [pairV, soldV] at HRS HSL
  have HNUM := hide (fun W => num_any ye W)
  clear h hw hsv
  go_enter Try.func5, Try.ntmps5
  go_wp2_with fail
  refine (HL.out).mono ?_
  rintro e w1 ⟨g, cm, rfl, hown1, hb1⟩
  have HM1 := hide hown1
  have HB1 := hide hb1
  clear hown1 hb1
  go_wp2_with fail
  refine (HSL.out _ g cm (bids_lent HM1.out)).mono ?_
  rintro e w2 ⟨rfl, hb2⟩
  have HB2 : Hid (Below w.heap.size w w2) := hide (HB1.out.trans (hb2.mono HB1.out.size))
  have HM2 := hide (own_below HM1.out hb2 (Nat.le_refl _))
  clear hb2
  go_wp2_with fail
  have HB2a : Hid (Below w.heap.size w (w2.alloc (.cells #[.bool y1, .int .i64 y2, .int .i64 y3, .int .i64 y4] 27))) := hide (HB2.out.alloc HB2.out.size _)
  have HS2a : Hid ((w2.alloc (.cells #[.bool y1, .int .i64 y2, .int .i64 y3, .int .i64 y4] 27)).heap[w2.heap.size]? = some (.cells #[.bool y1, .int .i64 y2, .int .i64 y3, .int .i64 y4] 27 (0, 0))) := hide (heap_alloc_new w2 _)
  refine (HRS.out _ HB2a.out).mono ?_
  rintro e w3 ⟨rfl, hb3⟩
  have HB3 : Hid (Below w.heap.size w w3) := hide (HB2a.out.trans (hb3.mono HB2a.out.size))
  have HS3 : Hid (w3.heap[w2.heap.size]? = some (.cells #[.bool y1, .int .i64 y2, .int .i64 y3, .int .i64 y4] 27 (0, 0))) := hide ((hb3.block _ (lt_of_block HS2a.out)).trans HS2a.out)
  have HM3 := hide (own_below (own_below HM2.out ((Below.refl w2.heap.size w2).alloc (Nat.le_refl _) (.cells #[.bool y1, .int .i64 y2, .int .i64 y3, .int .i64 y4] 27)) (Nat.le_refl _)) hb3 (Nat.le_refl _))
  clear hb3
  go_wp2_with fail
  have HX3 : Hid (SLm w w.heap.size g cm w2.heap.size w3.heap.size l #[.bool y1, .int .i64 y2, .int .i64 y3, .int .i64 y4] (w3.alloc (.cells #[.bool y1, .int .i64 y2, .int .i64 y3, .int .i64 y4] 27))) := hide ⟨own_below HM3.out ((Below.refl _ _).alloc (Nat.le_refl _) _) (Nat.le_refl _), (Below.heap_alloc _ _ _ (lt_of_block HS3.out)).trans HS3.out, heap_alloc_new w3 _, HB3.out.alloc HB3.out.size _⟩
  generalize w3.alloc (.cells #[.bool y1, .int .i64 y2, .int .i64 y3, .int .i64 y4] 27) = wa at *
  clear HM1 HM2 HM3 HS2a HS3 HB1 HB2 HB2a HB3
  refine (order_any _ cm l wa (bids_lent HX3.out.row) (by omega)).mono ?_
  rintro e w4 ⟨va, rfl, hzl, hown4, hb4⟩
  obtain ⟨Aa, ca, rfl, _⟩ := own_sh hown4
  have HX4 := hide (HX3.out.below hb4)
  have HA4 := hide hown4
  have HZA := hide hb4.size
  clear hb4 hown4
  go_wp2_with fail
  refine (order_any _ cm l w4 (bids_lent HX4.out.row) (by omega)).mono ?_
  rintro e w5 ⟨vb, rfl, _, hown5, hb5⟩
  obtain ⟨Ab, cb, rfl, _⟩ := own_sh hown5
  have HX5 := hide (HX4.out.below hb5)
  have HSZ5 := hide hb5.size
  have HA5 := hide (own_below HA4.out hb5 (Nat.le_refl _))
  have HB5 := hide hown5
  clear hb5 hown5
  go_wp2_with fail
  refine (reforder_any A c l w5 (HBI.out _ HX5.out.bel) (by omega)).mono ?_
  rintro e w6 ⟨vw, rfl, _, hown6, hb6⟩
  obtain ⟨Aw, cw, rfl, _⟩ := own_sh hown6
  have HX6 := hide (HX5.out.below hb6)
  have HA6 := hide (own_below HA5.out hb6 (Nat.le_refl _))
  have HB6 := hide (own_below HB5.out hb6 (Nat.le_refl _))
  have HW6 := hide hown6
  have HBA : Hid (∀ k, (Value.slice Aa l.length ca).ownBlock = some k → k < w4.heap.size) := hide (fun k hk => (HA4.out.lt k hk).2)
  have HZ5 := hide hb6.size
  clear hb6 hown6
  have hsc := cell_of_row w6 w2.heap.size 0 _ _ (0, 0) HX6.out.s
  have hsc1 := cell_of_row w6 w2.heap.size 1 _ _ (0, 0) HX6.out.s
  have hsc2 := cell_of_row w6 w2.heap.size 2 _ _ (0, 0) HX6.out.s
  have hsc3 := cell_of_row w6 w2.heap.size 3 _ _ (0, 0) HX6.out.s
  have htc := cell_of_row w6 w3.heap.size 0 _ _ (0, 0) HX6.out.t
  have htc1 := cell_of_row w6 w3.heap.size 1 _ _ (0, 0) HX6.out.t
  have htc2 := cell_of_row w6 w3.heap.size 2 _ _ (0, 0) HX6.out.t
  have htc3 := cell_of_row w6 w3.heap.size 3 _ _ (0, 0) HX6.out.t
  simp at hsc hsc1 hsc2 hsc3 htc htc1 htc2 htc3
  have hcm : l.length + 1 ≤ cm := by obtain ⟨_, _, e9, h9⟩ := own_sh HX6.out.row; injection e9 with _ _ e9; omega
  have hcm2 : (l.length : Int) + 1 ≤ (cm : Int) := by omega
  have hw1 : IntKind.i64.wrap ((l.length : Int) + 1) = (l.length : Int) + 1 := Go.IntWalk.i64_in _ (by omega)
  have HI1 := hide (fun W (h1 : W.ownsRow wa.heap.size 3 1 (.slice Aa l.length ca) l.length ((orderI l).map (Value.int .i64))) (h2 : W.ownsRow w5.heap.size 3 1 (.slice Aw l.length cw) l.length ((orderI l).map (Value.int .i64))) => ints_any (B1 := wa.heap.size) (B2 := w5.heap.size) (v1 := .slice Aa l.length ca) (v2 := .slice Aw l.length cw) (orderI l) W (by rw [hzl]; exact h1) (by rw [hzl]; exact h2) (by omega))
  have HMK : Hid (∀ W, SLm w w.heap.size g cm w2.heap.size w3.heap.size l #[.bool y1, .int .i64 y2, .int .i64 y3, .int .i64 y4] W → W.cell? ⟨g, l.length * 2, none⟩ = some (.int .i64 (-77))) := hide (fun W hW => by
    rw [hW.row.cellAt (l.length * 2) (by omega), List.getElem?_append_right (by rw [flat_len]; exact Nat.le_refl _), flat_len, Nat.sub_self]
    rfl)
  have HZL := hide hzl
  clear hzl
  go_wp2_with (first | (go_at_call 8; refine (HNUM.out _).mono ?_; rintro e _ ⟨rfl, rfl⟩) | (go_at_call 21; refine (HI1.out w6 HA6.out HW6.out).mono ?_; rintro e w7 ⟨rfl, hb7⟩; have HX7 := hide (HX6.out.below hb7); have HA7 := hide (own_below HA6.out hb7 (Nat.le_refl _)); have HB7 := hide (own_below HB6.out hb7 (Nat.le_refl _)); have HW7 := hide (own_below HW6.out hb7 (Nat.le_refl _)); clear hb7) | (go_at_call 22; refine (same_any l w7 (bids_lent HX7.out.row) (HBI.out _ HX7.out.bel) (by omega)).mono ?_; rintro e w8 ⟨rfl, hb8⟩; have HX8 := hide (HX7.out.below hb8); have HA8 := hide (own_below HA7.out hb8 (Nat.le_refl _)); have HB8 := hide (own_below HB7.out hb8 (Nat.le_refl _)); have HW8 := hide (own_below HW7.out hb8 (Nat.le_refl _)); have hmk := HMK.out w8 HX8.out; clear hb8))
  have HI2 := hide (fun W (h1 : W.ownsRow w4.heap.size 3 1 (.slice Ab l.length cb) l.length ((orderI l).map (Value.int .i64))) (h2 : W.ownsRow w5.heap.size 3 1 (.slice Aw l.length cw) l.length ((orderI l).map (Value.int .i64))) => ints_any (B1 := w4.heap.size) (B2 := w5.heap.size) (v1 := .slice Ab l.length cb) (v2 := .slice Aw l.length cw) (orderI l) W (by rw [HZL.out]; exact h1) (by rw [HZL.out]; exact h2) (by rw [HZL.out]; omega))
  have HWA : Hid (w.heap.size ≤ wa.heap.size ∧ wa.heap.size ≤ w4.heap.size ∧ w4.heap.size ≤ w5.heap.size) := hide ⟨HX3.out.bel.size, HZA.out, HSZ5.out⟩
  clear hsc hsc1 hsc2 hsc3 htc htc1 htc2 htc3 hmk hw1
  go_loopw [13] (fun i wr => ∃ (k : Nat) (xs : List Int), k ≤ l.length ∧ i = .int .i64 k ∧ xs.length = l.length ∧ wr.ownsRow wa.heap.size 3 1 (.slice Aa l.length ca) l.length (xs.map (Value.int .i64)) ∧ Turns (fun j => (Value.slice Aa l.length ca).ownBlock = some j) w8 wr) (fun i _ => l.length - (intOf i).toNat)
  case atStart => exact ⟨0, orderI l, Nat.zero_le _, rfl, HZL.out, HA8.out, Turns.refl _ _⟩
  case round =>
    obtain ⟨k, xs, hk, rfl, hxl, hown, ht⟩ := hrel
    have HO := hide hown
    have HT := hide ht
    by_cases hlt : k < l.length
    · obtain ⟨ga, ca2, hva, _⟩ := hown.form (by omega)
      injection hva with e1 _ e3
      subst e1 e3
      obtain ⟨z, hz9⟩ : ∃ z, xs[k]? = some z := ⟨xs[k]'(by omega), List.getElem?_eq_getElem _⟩
      have ck : wr.cell? ⟨ga, k, none⟩ = some (.int .i64 z) := by
        rw [hown.cellAt k (by omega), List.getElem?_map, hz9]; rfl
      have fk := hown.frozenAt k
      have hkl : (k : Int) < (l.length : Int) := by omega
      clear hown ht hz9
      go_wp2_with fail
      go_roundw
      case rel =>
        refine ⟨k + 1, xs.set k (-5), by omega, by go_num, by simpa using hxl, ?_, HT.out.trans (Turns.mono (Turns.of_set wr ⟨ga, k, none⟩ (.int .i64 (-5))) (fun j _ e => by rw [e]; rfl))⟩
        have h5 := (HO.out.stored k (.int .i64 (-5))).1
        rw [← List.map_set] at h5
        exact h5
      case measure => (simp [intOf] <;> omega)
    · obtain rfl : k = l.length := by omega
      have hnb : ∀ {B n : Nat} {v : Value} {ys : List Value}, w8.ownsRow B 3 1 v n ys → w4.heap.size ≤ B → wr.ownsRow B 3 1 v n ys := fun hr hB => ht.own hr (fun j hj e => by have h1 := (hr.lt j hj).1; have h2 := HBA.out j e; omega)
      have HB9 := hide (hnb HB8.out (Nat.le_refl _))
      have HW9 := hide (hnb HW8.out HWA.out.2.2)
      have HBW : Hid (Below w.heap.size w wr) := hide (HX8.out.bel.trans (ht.below HX8.out.bel.size (fun j hj e => by have h1 := (HA8.out.lt j e).1; have := HWA.out.1; omega)))
      clear hown ht hnb
      go_wp2_with (first | (go_at_call 21; refine (HI2.out wr HB9.out HW9.out).mono ?_; rintro e w9 ⟨rfl, hb9⟩; have HB10 : Hid (Below w.heap.size w w9) := hide (HBW.out.trans (hb9.mono HBW.out.size)); clear hb9) | (go_at_call 6; refine (works_any _).mono ?_; rintro e w10 ⟨rfl, hb10⟩))
      go_ret
      exact ⟨rfl, HB10.out.trans (hb10.mono HB10.out.size)⟩
end Go.Proofs.Ytnidmoljhopcoaa
