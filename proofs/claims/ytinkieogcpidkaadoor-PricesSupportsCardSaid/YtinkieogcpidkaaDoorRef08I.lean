/- The walks of the reference of layer 8: Instance, SameInstance, With: what they compute. -/
import Derived.Test.YtinkieogcpidkaaDoorRef08
import Derived.Test.YtinkieogcpidkaaDoorCopy
namespace Go.Proofs.YtinkieogcpidkaaDoor
open Go.RowKit

set_option maxRecDepth 100000 in
set_option maxHeartbeats 4000000 in
theorem inst08_any (n : Int) (A : Option Addr) (c : Nat) (hs : List Hdr) (ls : List (List Offer)) (w : World) (h : Buys w w.heap.size A hs ls) (hl : ls.length ≤ 1000000) (hls : BLens ls) (hw : BWide ls) :
    Calls Tryd.prog 20 #[instV n A ls.length c] w (IntPost (instE n ls) w) := by
  have hB : Below w.heap.size w (w.alloc (.cells #[.int .i64 n, .slice A ls.length c] 24)) := (Below.refl _ _).alloc (Nat.le_refl _) _
  by_cases h1 : n < 1
  · have hr : instE n ls = 2 := by unfold instE; rw [if_pos (.inl h1)]
    rw [hr]
    clear hr h
    simp only [instV]
    go_enter Tryd.func20, Tryd.ntmps20
    go_wp2
    go_ret
    exact ⟨rfl, hB⟩
  · by_cases h2 : 10 < n
    · have hr : instE n ls = 2 := by unfold instE; rw [if_pos (.inr h2)]
      rw [hr]
      clear hr h
      simp only [instV]
      go_enter Tryd.func20, Tryd.ntmps20
      go_wp2
      go_ret
      exact ⟨rfl, hB⟩
    · by_cases h3 : 32 < ls.length
      · have hr : instE n ls = 3 := by unfold instE; rw [if_neg (by omega), if_pos (.inl h3)]
        rw [hr]
        clear hr h
        have h3' : (32 : Int) < (ls.length : Int) := by omega
        simp only [instV]
        go_enter Tryd.func20, Tryd.ntmps20
        go_wp2
        go_ret
        exact ⟨rfl, hB⟩
      · have HI1 : Hid (ls.any longB = true → instE n ls = 3) := hide (fun h4 => by unfold instE; rw [if_neg (by omega), if_pos (.inr h4)])
        have HI2 : Hid (ls.any longB = false → instE n ls = instTo n ls) := hide (fun h4 => by unfold instE; rw [if_neg (by omega), if_neg (by rw [h4]; simp; omega)])
        have HCK : Hid (∀ (W : World) (A' : Option Addr) (c' : Nat) (l : List Offer), Offs W W.heap.size A' l → l.length ≤ 1000000 → OWide l → Calls Tryd.prog 41 #[.int .i64 n, .slice A' l.length c'] W (CheckPost n l W)) :=
          hide (fun W A' c' l h' hl' hw' => check08_any n A' c' l W h' hl' hw')
        have h3' : (ls.length : Int) ≤ 32 := by omega
        have hat := h.at_
        have HG := hide h
        have HLS := hide hls
        have HWD := hide hw
        have HX : Hid ((w.alloc (.cells #[.int .i64 n, .slice A ls.length c] 24)).heap[w.heap.size]? = some (.cells #[.int .i64 n, .slice A ls.length c] 24 (0, 0))) := hide (heap_alloc_new w _)
        have HB := hide hB
        clear h hls hw hB
        simp only [instV]
        go_enter Tryd.func20, Tryd.ntmps20
        go_wp2_with fail
        generalize w.alloc (.cells #[.int .i64 n, .slice A ls.length c] 24) = w1 at *
        have x0 : w1.cell? ⟨w.heap.size, 0, none⟩ = some (.int .i64 n) := cell_of_row w1 w.heap.size 0 _ _ (0, 0) HX.out
        have x1 : w1.cell? ⟨w.heap.size, 1, none⟩ = some (.slice A ls.length c) := cell_of_row w1 w.heap.size 1 _ _ (0, 0) HX.out
        have hlw := lt_of_block HX.out
        go_loopw [3] (fun iv wr => ∃ k : Nat, k ≤ ls.length ∧ iv = .int .i64 k ∧ (∀ j y, j < k → ls[j]? = some y → longB y = false) ∧ w1 = wr) (fun iv _ => ls.length - (intOf iv).toNat)
        case atStart => exact ⟨0, Nat.zero_le _, rfl, fun j y hj => absurd hj (by omega), by trivial⟩
        case round =>
          obtain ⟨k, hk, rfl, hno, rfl⟩ := hrel
          have HN := hide hno
          clear hno
          by_cases hlt : k < ls.length
          · obtain ⟨b, o, rfl, hbB, hcc⟩ := hat (by omega)
            obtain ⟨⟨a1, a2⟩, l, ha, hlx, _, _⟩ := HG.out.get hlt
            have d0 := (HB.out.cell (p := ⟨b, o + k, none⟩) hbB).trans (hcc k _ l ha hlx)
            simp only at d0
            have HLX := hide hlx
            clear hcc hat ha hlx
            by_cases hp : 8 < l.length
            · have HR := hide (HI1.out (List.any_eq_true.2 ⟨l, List.mem_of_getElem? HLX.out, by simp [longB, hp]⟩))
              have hp' : (8 : Int) < (l.length : Int) := by omega
              go_wp2_with fail
              go_ret
              exact ⟨by rw [HR.out]; rfl, HB.out⟩
            · have HP : Hid (longB l = false) := hide (by simp [longB]; omega)
              have hp' : (l.length : Int) ≤ 8 := by omega
              go_wp2_with fail
              go_roundw
              case rel => exact ⟨k + 1, by omega, by go_num, no_next HN.out HLX.out HP.out, by trivial⟩
              case measure => simp [intOf]; omega
          · obtain rfl : k = ls.length := by omega
            have h4 : ls.any longB = false := by
              rw [List.any_eq_false]
              intro x hx
              obtain ⟨j, hj, rfl⟩ := List.getElem_of_mem hx
              simp [HN.out j _ hj (List.getElem?_eq_getElem hj)]
            have HR0 := hide (HI2.out h4)
            clear h4
            go_wp2_with fail
            clear x0 x1
            go_loopw [4] (fun iv wr => ∃ k : Nat, k ≤ ls.length ∧ iv = .int .i64 k ∧ (∀ j y, j < k → ls[j]? = some y → (checkO n y).2 = 0) ∧ Below w1.heap.size w1 wr) (fun iv _ => ls.length - (intOf iv).toNat)
            case atStart => exact ⟨0, Nat.zero_le _, rfl, fun j y hj => absurd hj (by omega), Below.refl _ _⟩
            case round =>
              obtain ⟨k, hk, rfl, hno, hb⟩ := hrel
              have HN := hide hno; clear hno
              have hbx := (hb.block _ hlw).trans HX.out
              have e0 : wr.cell? ⟨w.heap.size, 0, none⟩ = some (.int .i64 n) := cell_of_row wr w.heap.size 0 _ _ (0, 0) hbx
              have e1 : wr.cell? ⟨w.heap.size, 1, none⟩ = some (.slice A ls.length c) := cell_of_row wr w.heap.size 1 _ _ (0, 0) hbx
              have HBX := hide hbx
              clear hbx
              by_cases hlt : k < ls.length
              · obtain ⟨b, o, rfl, hbB, hcc⟩ := hat (by omega)
                obtain ⟨⟨a1, a2⟩, x, ha, hx, hro, _⟩ := HG.out.get hlt
                have hbw := HB.out.trans (hb.mono HB.out.size)
                have d0 := (hbw.cell (p := ⟨b, o + k, none⟩) hbB).trans (hcc k _ x ha hx)
                simp only at d0 hro
                have hz := hb.size
                have HX2 := hide hx
                have HBW := hide hb
                have HH := hide (fun h1 => instTo_hit hx h1 HN.out)
                have HC1 : Hid (Calls Tryd.prog 41 #[.int .i64 n, .slice a1 x.length a2] wr.drew (CheckPost n x wr.drew)) := hide (HCK.out wr.drew a1 a2 x (hro.up (hbw.drew)) (HLS.out x (List.mem_of_getElem? hx)) (HWD.out x (List.mem_of_getElem? hx)))
                have hbr : b < wr.heap.size := by have := HB.out.size; omega
                have hwr : w.heap.size < wr.heap.size := by omega
                have hki : (k : Int) < (ls.length : Int) := by omega
                clear hcc hat hx hb ha hbw hro
                unfold CheckPost at HC1
                by_cases hp : (checkO n x).2 = 0
                · have HP := hide hp
                  rw [hp] at HC1
                  generalize (checkO n x).1 = z1 at HC1
                  clear hp HH
                  go_wp2_with fail
                  go_region_held3 (fun w' => w'.cell? ⟨w.heap.size, 0, none⟩ = some (.int .i64 n) ∧ w'.cell? ⟨w.heap.size, 1, none⟩ = some (.slice (some ⟨b, o, none⟩) ls.length c) ∧ w'.cell? ⟨b, o + k, none⟩ = some (.slice a1 x.length a2)) (first | exact ⟨r0, r1, r2⟩ | go_keep)
                    (first | (go_at_call 41; refine (HC1.out).mono ?_; rintro e w2 ⟨rfl, hb2⟩; have r0 := (hb2.cell (p := ⟨w.heap.size, 0, none⟩) hwr).trans e0; have r1 := (hb2.cell (p := ⟨w.heap.size, 1, none⟩) hwr).trans e1; have r2 := (hb2.cell (p := ⟨b, o + k, none⟩) hbr).trans d0; have HB2 : Hid (Below wr.heap.size wr w2) := hide ((Below.refl _ _).drew.trans hb2); clear hb2))
                  go_wp2_with fail
                  go_roundw
                  case rel =>
                    refine ⟨k + 1, by omega, by go_num, fun j y hj hy => ?_, HBW.out.trans (HB2.out.mono hz)⟩
                    rcases Nat.lt_or_ge j k with h5 | h5
                    · exact HN.out j y h5 hy
                    · obtain rfl : j = k := by omega
                      have := HX2.out
                      rw [hy] at this
                      injection this with this
                      rw [this]
                      exact HP.out
                  case measure => simp [intOf]; omega
                · have HR := hide (HH.out hp)
                  have hp' : ((checkO n x).2 != 0) = true := by simpa using hp
                  generalize (checkO n x).1 = z1 at HC1
                  generalize (checkO n x).2 = z2 at HC1 HR hp'
                  clear hp HH
                  go_wp2_with fail
                  go_region_held3 (fun w' => w'.cell? ⟨w.heap.size, 0, none⟩ = some (.int .i64 n) ∧ w'.cell? ⟨w.heap.size, 1, none⟩ = some (.slice (some ⟨b, o, none⟩) ls.length c) ∧ w'.cell? ⟨b, o + k, none⟩ = some (.slice a1 x.length a2)) (first | exact ⟨r0, r1, r2⟩ | go_keep)
                    (first | (go_at_call 41; refine (HC1.out).mono ?_; rintro e w2 ⟨rfl, hb2⟩; have r0 := (hb2.cell (p := ⟨w.heap.size, 0, none⟩) hwr).trans e0; have r1 := (hb2.cell (p := ⟨w.heap.size, 1, none⟩) hwr).trans e1; have r2 := (hb2.cell (p := ⟨b, o + k, none⟩) hbr).trans d0; have HB2 : Hid (Below wr.heap.size wr w2) := hide ((Below.refl _ _).drew.trans hb2); clear hb2))
                  go_wp2_with fail
                  go_ret
                  exact ⟨by rw [HR0.out, HR.out]; rfl, HB.out.trans ((HBW.out.trans (HB2.out.mono hz)).mono HB.out.size)⟩
              · obtain rfl : k = ls.length := by omega
                have HR := hide (instTo_miss HN.out)
                go_wp2_with fail
                go_ret
                exact ⟨by rw [HR0.out, HR.out]; rfl, HB.out.trans (hb.mono HB.out.size)⟩
end Go.Proofs.YtinkieogcpidkaaDoor
