/- gavellaw11.turned: two nested loops. -/
import Derived.Test.YtnidmoljhopcoaaWorks
namespace Go.Proofs.Ytnidmoljhopcoaa
open Go.RowKit

structure TurnRel (w : World) (s : SoldT) (l : List (Int × Int)) (m : Nat) (v : Value) (wr : World) : Prop where
  row : wr.ownsRow (w.heap.size + 1) 33 2 v m (flat (l.reverse.take m))
  nd : ((l.reverse.take m).map (·.2)).Nodup
  box : wr.heap[w.heap.size]? = some (.cells #[.bool s.1, .int .i64 s.2.1, .int .i64 s.2.2.1, .int .i64 s.2.2.2] 27 (0, 0))
  bel : Below w.heap.size w wr

set_option maxRecDepth 100000 in
set_option maxHeartbeats 4000000 in
theorem turned_any (floor : Int) (A : Option Addr) (c : Nat) (l : List (Int × Int)) (s : SoldT) (w : World) (h : Bids w w.heap.size A l) (hl : l.length ≤ 1000) (hw : Wide l)
    (ht : (l.reverse.map (·.2)).Nodup → sellI floor l.reverse = (s, 0)) :
    Calls Try.prog 9 #[.int .i64 floor, .slice A l.length c, soldV s] w (ValPost (.bool true) w) := by
  have HA := hide h
  have HT := hide ht
  have HW := hide hw
  clear h ht hw
  simp only [soldV]
  have HNUM := hide (fun W => num_any 0 W)
  go_enter Try.func9, Try.ntmps9
  go_wp2_with fail
  go_loopw [7, 8] (fun v i wr => ∃ m : Nat, m ≤ l.length ∧ i = .int .i64 ((l.length : Int) - 1 - m) ∧ TurnRel w s l m v wr) (fun _ i _ => (intOf i + 1).toNat)
  case atStart => 
    refine ⟨0, Nat.zero_le _, by simp, ⟨by simpa [flat] using World.ownsRow_nil _ _ _ _, by simp, heap_alloc_new _ _, (Below.refl _ _).alloc (Nat.le_refl _) _⟩⟩
  case round =>
    rename World => wo
    obtain ⟨m, hm, rfl, hr⟩ := hrel
    have HR := hide hr; clear hr
    have hz := HR.out.bel.size
    by_cases hlt : m < l.length
    · obtain ⟨q, hq⟩ : ∃ q : Nat, (l.length : Int) - 1 - m = q := ⟨l.length - 1 - m, by omega⟩
      rw [hq]
      have hqn : q = l.length - 1 - m := by omega
      have hql : q < l.length := by omega
      obtain ⟨x, hx⟩ : ∃ x, l[q]? = some x := ⟨l[q]'(by omega), List.getElem?_eq_getElem (by omega)⟩
      have hrx : l.reverse[m]? = some x := by rw [List.getElem?_reverse hlt, ← hqn, hx]
      obtain ⟨b, o, rfl, hbB, hc⟩ := HA.out.at_ (by omega)
      obtain ⟨hc0, hc1⟩ := hc q x hx
      have HX := hide hrx
      clear hc hx hrx
      have d0 := (HR.out.bel.cell (p := ⟨b, o + q * 2, none⟩) hbB).trans hc0
      have d1 := (HR.out.bel.cell (p := ⟨b, o + q * 2 + 1, none⟩) hbB).trans hc1
      clear hc0 hc1
      obtain ⟨x1, x2⟩ := x
      simp only at d0 d1
      obtain ⟨A', cp, hu7, hmcp⟩ := own_sh HR.out.row
      subst hu7
      have HB2 : Hid (Bids wo wo.heap.size A' (l.reverse.take m)) := by
        have := Reads.of_own HR.out.row
        unfold Bids
        rw [List.length_take, List.length_reverse, Nat.min_eq_left hm]
        exact hide this
      have hbw : b < wo.heap.size := by omega
      have HQ := hide hq
      clear hq hqn
      go_wp2_with fail
      go_loopw [9] (fun i wi => ∃ k : Nat, k ≤ m ∧ i = .int .i64 k ∧ (∀ j y, j < k → (l.reverse.take m)[j]? = some y → y.2 ≠ x2) ∧ Below wo.heap.size wo wi) (fun i _ => m - (intOf i).toNat)
      case atStart => exact ⟨0, Nat.zero_le _, rfl, fun j y hj => absurd hj (by omega), Below.refl _ _⟩
      case round =>
        obtain ⟨k, hk, rfl, hno, hbi⟩ := hrel
        have HNO := hide hno; clear hno
        have HBI := hide hbi; clear hbi
        by_cases hkm : k < m
        · obtain ⟨y, hy⟩ : ∃ y, (l.reverse.take m)[k]? = some y := ⟨_, List.getElem?_eq_getElem (by simp; omega)⟩
          obtain ⟨b2, o2, rfl, hb2, hc2⟩ := HB2.out.at_ (by simp; omega)
          obtain ⟨hc20, hc21⟩ := hc2 k y hy
          have e1 := (HBI.out.cell (p := ⟨b2, o2 + k * 2 + 1, none⟩) hb2).trans hc21
          have d1' := (HBI.out.cell (p := ⟨b, o + q * 2 + 1, none⟩) hbw).trans d1
          have HY := hide hy
          clear hc2 hy hc20 hc21
          obtain ⟨y1, y2⟩ := y
          simp only at e1
          by_cases hyx : y2 = x2
          · subst hyx
            go_wp2_with fail
            go_quiet (fail)
            go_wp2_with fail
            go_ret
            exact ⟨rfl, below_drewN (HR.out.bel.trans (HBI.out.mono hz)) _⟩
          · go_wp2_with fail
            go_quiet (fail)
            go_wp2_with fail
            refine ⟨⟨k + 1, by omega, by go_num, fun j z hj hz' => ?_, below_drewN HBI.out _⟩, by simp [intOf]; omega⟩
            rcases Nat.lt_or_ge j k with h1 | h1
            · exact HNO.out j z h1 hz'
            · obtain rfl : j = k := by omega
              rw [HY.out] at hz'
              injection hz' with hz'
              rw [← hz']
              exact hyx
        · obtain rfl : k = m := by omega
          have hzi := HBI.out.size
          have HOWN : Hid (wr.ownsRow (w.heap.size + 1) 33 2 (.slice A' k cp) k (flat (l.reverse.take k))) := hide (own_below HR.out.row HBI.out (Nat.le_refl _))
          have c0 := (HBI.out.cell (p := ⟨b, o + q * 2, none⟩) hbw).trans d0
          have c1 := (HBI.out.cell (p := ⟨b, o + q * 2 + 1, none⟩) hbw).trans d1
          have G1 : Hid (∀ u ∈ [Value.int .i64 x1, .int .i64 x2], u.oneCell' = true) := hide (by intro u hu; simp at hu; rcases hu with rfl | rfl <;> rfl)
          have G2 : Hid (k + 1 ≤ maxLen) := hide (by unfold maxLen; omega)
          have G3 : Hid ((k + 1) * 16 ≤ 140737488355328) := hide (by omega)
          have G4 : Hid (w.heap.size + 1 ≤ wr.heap.size) := hide (by have := lt_of_block HR.out.box; omega)
          clear d0 d1
          go_wp2_with (at_builtin; refine wpList_app rfl (.tmp 36) (.tmp 41) 22 rfl (w.heap.size + 1) (.agg #[.int .i64 0, .int .i64 0]) 2 16 info33 Try.underlying22 rfl (by decide) _ _ _ rfl HOWN.out 1 1 rfl rfl G1.out G2.out G3.out G4.out ?_; intro v' w2 hown hg _ _; have HO := hide hown; have HG := hide hg; clear hown hg)
          have HG' : wr.grownBy w2 (Value.slice A' k cp).ownBlock := HG.out
          have htk : l.reverse.take (k + 1) = l.reverse.take k ++ [(x1, x2)] := by rw [List.take_add_one, HX.out]; rfl
          refine ⟨⟨k + 1, by omega, by rw [show (q : Int) - 1 = (l.length : Int) - 1 - ((k + 1 : Nat) : Int) from by have := HQ.out; omega], ⟨?_, ?_, ?_, ?_⟩⟩, by simp [intOf]⟩
          · rw [htk, flat_append]
            exact HO.out
          · rw [htk, List.map_append, List.nodup_append]
            refine ⟨HR.out.nd, by simp, fun a ha b' hb' => ?_⟩
            simp at hb'
            subst hb'
            obtain ⟨y, hy, rfl⟩ := List.mem_map.1 ha
            obtain ⟨j, hj, rfl⟩ := List.getElem_of_mem hy
            exact HNO.out j _ (by simp at hj; omega) (List.getElem?_eq_getElem hj)
          · have hb5 := (HBI.out.block _ (lt_of_block HR.out.box)).trans HR.out.box
            exact (HG'.block _ (lt_of_block hb5) (Ne.symm (own_ne HOWN.out hb5 (by simp)))).trans hb5
          · exact (HR.out.bel.trans (HBI.out.mono hz)).grown HG' (by omega) (fun k' hk' => by have := (HOWN.out.lt k' hk').1; omega)
    · obtain rfl : m = l.length := by omega
      obtain ⟨A', cp, hu7, hmcp⟩ := own_sh HR.out.row
      subst hu7
      have hlr : l.reverse.take l.length = l.reverse := List.take_of_length_le (by simp)
      have hnd := HR.out.nd
      rw [hlr] at hnd
      have HS : Hid (Calls Try.prog 7 #[.int .i64 floor, .slice A' l.length cp] wo (ValPost (pairV (s, 0)) wo)) := by
        have hrd := Reads.of_own HR.out.row
        rw [hlr] at hrd
        have := sell_any floor A' cp l.reverse wo (by unfold Bids; rw [List.length_reverse]; exact hrd) (by simp; omega) (fun x hx => HW.out x (by simpa using hx))
        rw [HT.out hnd, List.length_reverse] at this
        exact hide this
      have HBOX := hide HR.out.box
      simp only [pairV, soldV] at HS
      go_wp2_with (first | (go_at_call 7; refine (HS.out).mono ?_; rintro e w1 ⟨rfl, hb1⟩; have hs4 := (hb1.block _ (lt_of_block HBOX.out)).trans HBOX.out; have HZ4 : Hid (Below w.heap.size w w1) := hide (HR.out.bel.trans (hb1.mono hz)); have hl4 := lt_of_block hs4; have e1 := fun i => cell_of_row w1 w.heap.size i _ 27 (0, 0) hs4; have e2 := fun ob i => (World.cell?_alloc_lt w1 ob ⟨w.heap.size, i, none⟩ hl4).trans (e1 i); clear hb1 hs4) | (go_at_call 8; refine (HNUM.out _).mono ?_; rintro e _ ⟨rfl, rfl⟩))
      go_ret
      exact ⟨rfl, HZ4.out.alloc HZ4.out.size _⟩
end Go.Proofs.Ytnidmoljhopcoaa
