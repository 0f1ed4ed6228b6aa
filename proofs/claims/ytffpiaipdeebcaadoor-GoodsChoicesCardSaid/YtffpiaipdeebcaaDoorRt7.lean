/- gavelref07.Taken of any instance and choice. -/
import Derived.Test.YtffpiaipdeebcaaDoorRc7
import Derived.Test.YtffpiaipdeebcaaDoorGpW
namespace Go.Proofs.YtffpiaipdeebcaaDoor
open Go.RowKit Go.Maps Go.Shelf
open Go.ChangeMaps Go.WideMaps

def RefTakenP (n : Int) (ls : List (List Offer)) (zs : List Int) (w : World) (e : Ending) (w' : World) : Prop :=
  ∃ A c, e = .returned (.tuple #[.slice A (chTaken n ls zs).length c, .int .i64 (chWorth n ls zs), .int .i64 (chErr n ls zs)]) ∧ w'.ownsRow w.heap.size 25 1 (.slice A (chTaken n ls zs).length c) (chTaken n ls zs).length ((chTaken n ls zs).map gV) ∧ Below w.heap.size w w'
theorem chE_long {ls : List (List Offer)} {zs : List Int} (h : zs.length ≠ ls.length) : chE ls zs = 170 := by unfold chE; rw [if_pos h]
theorem chE_out {ls : List (List Offer)} {zs : List Int} {k : Nat} {l : List Offer} {z : Int} (hl : ls[k]? = some l) (hz : zs[k]? = some z) (h : okZ l z = false) : chE ls zs = 170 := by
  rcases chE_cases ls zs with h0 | h0
  · have := (chE_zero.1 h0).2.1 k l z hl hz
    rw [h] at this
    cases this
  · exact h0
theorem chE_apart {ls : List (List Offer)} {zs : List Int} (hlen : zs.length = ls.length) (hall : ∀ (j : Nat) l z, ls[j]? = some l → zs[j]? = some z → okZ l z = true) : (apartB ((outL ls zs).map Prod.fst) = true ∧ chE ls zs = 0) ∨ (apartB ((outL ls zs).map Prod.fst) = false ∧ chE ls zs = 170) := by
  cases h : apartB ((outL ls zs).map Prod.fst)
  · refine .inr ⟨rfl, ?_⟩
    rcases chE_cases ls zs with h0 | h0
    · have := (chE_zero.1 h0).2.2
      rw [h] at this
      cases this
    · exact h0
  · exact .inl ⟨rfl, chE_zero.2 ⟨hlen, hall, h⟩⟩
theorem outT_step {ls : List (List Offer)} {zs : List Int} {k : Nat} {l : List Offer} {z : Int} (hlen : zs.length = ls.length) (hl : ls[k]? = some l) (hz : zs[k]? = some z) : outL (ls.take (k + 1)) (zs.take (k + 1)) = outL (ls.take k) (zs.take k) ++ [pickO l z] := by
  have hk : k < ls.length := (List.getElem?_eq_some_iff.1 hl).1
  unfold outL
  rw [List.take_add_one, List.take_add_one, hl, hz, Option.toList_some, Option.toList_some, List.zipWith_append (by simp; omega)]
  rfl
set_option maxRecDepth 100000 in
set_option maxHeartbeats 8000000 in
theorem reftaken_any (n : Int) (A : Option Addr) (c : Nat) (hs : List Hdr) (ls : List (List Offer)) (Z : Option Addr) (zc : Nat) (zs : List Int) (w : World) (h : Buys w w.heap.size A hs ls) (hw : BWide ls)
    (hz : One intV w w.heap.size Z zs) (hzl : zs.length * 8 ≤ 140737488351232) :
    Calls Tryd.prog 36 #[instV n A ls.length c, .slice Z zs.length zc] w (RefTakenP n ls zs w) := by
  have HB0 : Hid (Below w.heap.size w (w.alloc (.cells #[.int .i64 n, .slice A ls.length c] 49))) := hide ((Below.refl _ _).alloc (Nat.le_refl _) _)
  have HX0 := hide (heap_alloc_new w (.cells #[.int .i64 n, .slice A ls.length c] 49))
  have HCK := hide (refcheck_any n A c hs ls _ (h.up HB0.out) hw)
  unfold checkV ValPost at HCK
  have HA := hide h
  have HZS := hide hz
  have HW := hide hw
  have HCE : Hid (chErr n ls zs = if instE n ls ≠ 0 then 2 else chE ls zs) := hide rfl
  have HTL : Hid (chTaken n ls zs = if chErr n ls zs ≠ 0 then [] else (outL ls zs).map (·.1)) := hide rfl
  have HWV : Hid (chWorth n ls zs = if chErr n ls zs ≠ 0 then 0 else sumC (outL ls zs)) := hide rfl
  have hend : ∀ ce, chErr n ls zs = ce → ce ≠ 0 → chTaken n ls zs = [] ∧ chWorth n ls zs = 0 := fun ce h1 h2 => by
    refine ⟨?_, ?_⟩
    · unfold chTaken; rw [h1, if_pos h2]
    · unfold chWorth; rw [h1, if_pos h2]
  have HEND := hide hend
  clear h hz hw hend
  by_cases hok : instE n ls = 0
  · have hck : checkT n ls = (0, 0, 0) := by
      rcases checkT_cases n ls with h2 | h2
      · have := checkT_ok.2 hok
        rw [h2] at this
        cases this
      · exact h2
    rw [hck] at HCK
    have hce : chErr n ls zs = chE ls zs := by rw [HCE.out, if_neg (by simp [hok])]
    have HC2 := hide hce
    have hm32 : ls.length ≤ 32 := (instE_ok.1 hok).2.1
    have HGB := hide (instE_good HW.out hok).good
    clear hck hce hok HCE
    simp only [instV] at *
    go_enter Tryd.func36, Tryd.ntmps36
    go_upto_region 1 with fail
    generalize w.alloc (.cells #[.int .i64 n, .slice A ls.length c] 49) = w0 at *
    have x0 := cell_of_row _ _ 0 _ _ (0, 0) HX0.out
    have x1 := cell_of_row _ _ 1 _ _ (0, 0) HX0.out
    simp only [List.getElem?_toArray, List.getElem?_cons_zero, List.getElem?_cons_succ] at x0 x1
    go_upto_region 4 with (go_at_call 35; refine (HCK.out).mono ?_; rintro e w1 ⟨rfl, hb1⟩; have HB1 := hide (HB0.out.trans (hb1.mono HB0.out.size)); have HX1 := hide ((hb1.block _ (lt_of_block HX0.out)).trans HX0.out); clear hb1)
    clear x0 x1
    have x1 := cell_of_row _ _ 1 _ _ (0, 0) HX1.out
    simp only [List.getElem?_toArray, List.getElem?_cons_zero, List.getElem?_cons_succ] at x1
    by_cases hlen : zs.length = ls.length
    · have hne : (((zs.length : Nat) : Int) != (ls.length : Int)) = false := by simp; omega
      have HLN := hide hlen
      have HMZ : Hid (zs.length ≤ 32) := hide (by omega)
      have HO1 : Hid (w1.ownsRow w1.heap.size 25 1 (.slice none 0 0) 0 []) := hide (World.ownsRow_nil _ _ _ _)
      clear hlen hm32
      go_wp2_with fail
      clear x1 hne
      go_loopw [10, 11, 12] (fun ov sv iv wr => ∃ (k : Nat) (A2 : Option Addr) (c2 : Nat), k ≤ zs.length ∧ iv = .int .i64 k ∧ sv = .int .i64 (sumC (outL (ls.take k) (zs.take k))) ∧ ov = .slice A2 k c2 ∧ wr.ownsRow w1.heap.size 25 1 (.slice A2 k c2) k (((outL (ls.take k) (zs.take k)).map (·.1)).map gV) ∧ (∀ (j : Nat) l z, j < k → ls[j]? = some l → zs[j]? = some z → okZ l z = true) ∧ Below w1.heap.size w1 wr) (fun _ _ iv _ => zs.length - (intOf iv).toNat)
      case atStart => exact ⟨0, none, 0, Nat.zero_le _, rfl, rfl, rfl, HO1.out, fun j l z hj => absurd hj (by omega), Below.refl _ _⟩
      case round =>
        obtain ⟨k, A2, c2, hk, rfl, rfl, rfl, ho, hall, hb⟩ := hrel
        have HO := hide ho
        have HALL := hide hall
        have HBR := hide hb
        have HBW := hide (HB1.out.trans (hb.mono HB1.out.size))
        have HXR := hide ((hb.block _ (lt_of_block HX1.out)).trans HX1.out)
        have x1 := cell_of_row _ _ 1 _ _ (0, 0) HXR.out
        simp only [List.getElem?_toArray, List.getElem?_cons_zero, List.getElem?_cons_succ] at x1
        clear ho hall hb
        by_cases hlt : k < zs.length
        · have hkl : k < ls.length := by rw [← HLN.out]; exact hlt
          obtain ⟨⟨a1, a2⟩, l, ha, hlx, hro, hca⟩ := HA.out.get hkl
          obtain ⟨bb, bo, rfl, hbB, hat⟩ := HA.out.at_ (by omega)
          obtain ⟨zb, zo, rfl, hzB, hzat⟩ := One.at_ HZS.out (by omega)
          obtain ⟨z, hzx⟩ : ∃ z, zs[k]? = some z := ⟨zs[k], List.getElem?_eq_getElem hlt⟩
          have z1 : wr.cell? ⟨bb, bo + k, none⟩ = some (.slice a1 l.length a2) := (HBW.out.cell (p := ⟨bb, bo + k, none⟩) hbB).trans (hat k _ l ha hlx)
          have z2 : wr.cell? ⟨zb, zo + k, none⟩ = some (.int .i64 z) := (HBW.out.cell (p := ⟨zb, zo + k, none⟩) hzB).trans (hzat k z hzx)
          have HRO := hide (hro.up HBW.out)
          have HLX := hide hlx
          have HZX := hide hzx
          have HKL := hide hkl
          have hki : (k : Int) < (zs.length : Int) := by omega
          have hki2 : (k : Int) < (ls.length : Int) := by omega
          have HSC : Hid (∀ X : World, X = wr.drew → X.cell? ⟨w.heap.size, 1, none⟩ = some (.slice (some ⟨bb, bo, none⟩) ls.length c) ∧ X.cell? ⟨bb, bo + k, none⟩ = some (.slice a1 l.length a2) ∧ X.cell? ⟨zb, zo + k, none⟩ = some (.int .i64 z)) := hide (fun X hX => by subst hX; exact ⟨x1, z1, z2⟩)
          clear hat hzat ha hlx hro hca hzx hkl
          have HXC := hide x1
          clear x1 z1 z2
          by_cases hz1 : z < -1
          · have hoz : okZ l z = false := by unfold okZ; rw [decide_eq_false (by omega)]; rfl
            have HCE : Hid (chErr n ls zs = 170) := hide (by rw [HC2.out]; exact chE_out HLX.out HZX.out hoz)
            obtain ⟨ht0, hw0⟩ := HEND.out 170 HCE.out (by decide)
            have HT0 := hide ht0
            have HW0 := hide hw0
            clear ht0 hw0 HEND HC2 HTL HWV
            have d1 : decide (z < -1) = true := decide_eq_true hz1
            clear hoz hz1
            go_upto_region 11 with fail
            have hS0 := HSC.out wr.drew rfl
            refine wp_region_U 18 (fun X => X.cell? ⟨w.heap.size, 1, none⟩ = some (.slice (some ⟨bb, bo, none⟩) ls.length c) ∧ X.cell? ⟨bb, bo + k, none⟩ = some (.slice a1 l.length a2) ∧ X.cell? ⟨zb, zo + k, none⟩ = some (.int .i64 z)) rfl hS0 (fun hHeld => ?_)
            clear hS0
            refine AnyU.take (i := 0) (v := ?v1) rfl (by kernel_rfl) (by kernel_rfl) (by kernel_rfl) (by kernel_rfl) (fun _ _ _ h => h) (Or.inl ⟨by rfl, ?hy1⟩) hHeld ?r1
            case hy1 => (intro w hSw; (try dsimp only at hSw); go_simp <;> with_reducible rfl)
            simp only [Act.put, List.setIfInBounds_toArray, List.set_cons_zero, List.set_cons_succ]
            refine AnyU.take (i := 1) (v := ?v2) rfl (by kernel_rfl) (by kernel_rfl) (by kernel_rfl) (by kernel_rfl) (fun _ _ _ h => h) (Or.inl ⟨by rfl, ?hy2⟩) hHeld ?r2
            case hy2 => (intro w hSw; (try dsimp only at hSw); go_simp <;> with_reducible rfl)
            simp only [Act.put, List.setIfInBounds_toArray, List.set_cons_zero, List.set_cons_succ]
            refine AnyU.take (i := 2) (v := ?v3) rfl (by kernel_rfl) (by kernel_rfl) (by kernel_rfl) (by kernel_rfl) (fun _ _ _ h => h) (Or.inl ⟨by rfl, ?hy3⟩) hHeld ?r3
            case hy3 => (intro w hSw; (try dsimp only at hSw); go_simp <;> with_reducible rfl)
            simp only [Act.put, List.setIfInBounds_toArray, List.set_cons_zero, List.set_cons_succ]
            refine AnyU.take (i := 3) (v := ?v4) rfl (by kernel_rfl) (by kernel_rfl) (by kernel_rfl) (by kernel_rfl) (fun _ _ _ h => h) (Or.inl ⟨by rfl, ?hy4⟩) hHeld ?r4
            case hy4 => (intro w hSw; (try dsimp only at hSw); go_simp <;> with_reducible rfl)
            simp only [Act.put, List.setIfInBounds_toArray, List.set_cons_zero, List.set_cons_succ]
            refine AnyU.take (i := 4) (v := ?v5) rfl (by kernel_rfl) (by kernel_rfl) (by kernel_rfl) (by kernel_rfl) (fun _ _ _ h => h) (Or.inl ⟨by rfl, ?hy5⟩) hHeld ?r5
            case hy5 => (intro w hSw; (try dsimp only at hSw); go_simp <;> with_reducible rfl)
            simp only [Act.put, List.setIfInBounds_toArray, List.set_cons_zero, List.set_cons_succ]
            refine AnyU.take (i := 5) (v := ?v6) rfl (by kernel_rfl) (by kernel_rfl) (by kernel_rfl) (by kernel_rfl) (fun _ _ _ h => h) (Or.inl ⟨by rfl, ?hy6⟩) hHeld ?r6
            case hy6 => (intro w hSw; (try dsimp only at hSw); go_simp <;> with_reducible rfl)
            simp only [Act.put, List.setIfInBounds_toArray, List.set_cons_zero, List.set_cons_succ]
            refine AnyU.take (i := 6) (v := undef) rfl (by kernel_rfl) (by kernel_rfl) (by kernel_rfl) (by kernel_rfl) (fun _ _ _ h => h) (Or.inr ⟨by rfl, rfl⟩) hHeld ?_
            simp only [Act.put, List.setIfInBounds_toArray, List.set_cons_zero, List.set_cons_succ]
            refine AnyU.take (i := 7) (v := undef) rfl (by kernel_rfl) (by kernel_rfl) (by kernel_rfl) (by kernel_rfl) (fun _ _ _ h => h) (Or.inr ⟨by rfl, rfl⟩) hHeld ?_
            simp only [Act.put, List.setIfInBounds_toArray, List.set_cons_zero, List.set_cons_succ]
            refine AnyU.take (i := 8) (v := undef) rfl (by kernel_rfl) (by kernel_rfl) (by kernel_rfl) (by kernel_rfl) (fun _ _ _ h => h) (Or.inr ⟨by rfl, rfl⟩) hHeld ?_
            simp only [Act.put, List.setIfInBounds_toArray, List.set_cons_zero, List.set_cons_succ]
            refine AnyU.take (i := 9) (v := undef) rfl (by kernel_rfl) (by kernel_rfl) (by kernel_rfl) (by kernel_rfl) (fun _ _ _ h => h) (Or.inr ⟨by rfl, rfl⟩) hHeld ?_
            simp only [Act.put, List.setIfInBounds_toArray, List.set_cons_zero, List.set_cons_succ]
            refine AnyU.take (i := 10) (v := undef) rfl (by kernel_rfl) (by kernel_rfl) (by kernel_rfl) (by kernel_rfl) (fun _ _ _ h => h) (Or.inr ⟨by rfl, rfl⟩) hHeld ?_
            simp only [Act.put, List.setIfInBounds_toArray, List.set_cons_zero, List.set_cons_succ]
            refine AnyU.take (i := 11) (v := undef) rfl (by kernel_rfl) (by kernel_rfl) (by kernel_rfl) (by kernel_rfl) (fun _ _ _ h => h) (Or.inr ⟨by rfl, rfl⟩) hHeld ?_
            simp only [Act.put, List.setIfInBounds_toArray, List.set_cons_zero, List.set_cons_succ]
            refine AnyU.take (i := 12) (v := undef) rfl (by kernel_rfl) (by kernel_rfl) (by kernel_rfl) (by kernel_rfl) (fun _ _ _ h => h) (Or.inr ⟨by rfl, rfl⟩) hHeld ?_
            simp only [Act.put, List.setIfInBounds_toArray, List.set_cons_zero, List.set_cons_succ]
            refine AnyU.take (i := 13) (v := undef) rfl (by kernel_rfl) (by kernel_rfl) (by kernel_rfl) (by kernel_rfl) (fun _ _ _ h => h) (Or.inr ⟨by rfl, rfl⟩) hHeld ?_
            simp only [Act.put, List.setIfInBounds_toArray, List.set_cons_zero, List.set_cons_succ]
            refine AnyU.take (i := 14) (v := undef) rfl (by kernel_rfl) (by kernel_rfl) (by kernel_rfl) (by kernel_rfl) (fun _ _ _ h => h) (Or.inr ⟨by rfl, rfl⟩) hHeld ?_
            simp only [Act.put, List.setIfInBounds_toArray, List.set_cons_zero, List.set_cons_succ]
            refine AnyU.take (i := 15) (v := undef) rfl (by kernel_rfl) (by kernel_rfl) (by kernel_rfl) (by kernel_rfl) (fun _ _ _ h => h) (Or.inr ⟨by rfl, rfl⟩) hHeld ?_
            simp only [Act.put, List.setIfInBounds_toArray, List.set_cons_zero, List.set_cons_succ]
            refine AnyU.take (i := 16) (v := undef) rfl (by kernel_rfl) (by kernel_rfl) (by kernel_rfl) (by kernel_rfl) (fun _ _ _ h => h) (Or.inr ⟨by rfl, rfl⟩) hHeld ?_
            simp only [Act.put, List.setIfInBounds_toArray, List.set_cons_zero, List.set_cons_succ]
            refine AnyU.take (i := 17) (v := ?v18) rfl (by kernel_rfl) (by kernel_rfl) (by kernel_rfl) (by kernel_rfl) (fun _ _ _ h => h) (Or.inl ⟨by rfl, ?hy18⟩) hHeld ?r18
            case hy18 => (intro w hSw; (try dsimp only at hSw); go_simp <;> with_reducible rfl)
            simp only [Act.put, List.setIfInBounds_toArray, List.set_cons_zero, List.set_cons_succ]
            refine AnyU.over (by kernel_rfl) ?_ _
            go_wp2_with fail
            refine bodyPost_ret (v := .tuple #[.slice none 0 0, .int .i64 0, .int .i64 170]) (by simp [results, Tryd.results36, go_sem]) rfl ?_
            unfold RefTakenP; refine ⟨none, 0, by rw [HT0.out, HW0.out, HCE.out]; rfl, by rw [HT0.out]; exact World.ownsRow_nil _ _ _ _, ?_⟩
            exact HBW.out.drew
          · have d1 : decide (z < -1) = false := decide_eq_false hz1
            by_cases hz2 : (l.length : Int) ≤ z
            · have hoz : okZ l z = false := by unfold okZ; rw [decide_eq_false (show ¬ z < (l.length : Int) by omega), Bool.and_false]
              have HCE : Hid (chErr n ls zs = 170) := hide (by rw [HC2.out]; exact chE_out HLX.out HZX.out hoz)
              obtain ⟨ht0, hw0⟩ := HEND.out 170 HCE.out (by decide)
              have HT0 := hide ht0
              have HW0 := hide hw0
              clear ht0 hw0 HEND HC2 HTL HWV
              have d2 : decide ((l.length : Int) ≤ z) = true := decide_eq_true hz2
              clear hoz hz1 hz2
              go_upto_region 11 with fail
              have hS0 := HSC.out wr.drew rfl
              refine wp_region_U 18 (fun X => X.cell? ⟨w.heap.size, 1, none⟩ = some (.slice (some ⟨bb, bo, none⟩) ls.length c) ∧ X.cell? ⟨bb, bo + k, none⟩ = some (.slice a1 l.length a2) ∧ X.cell? ⟨zb, zo + k, none⟩ = some (.int .i64 z)) rfl hS0 (fun hHeld => ?_)
              clear hS0
              refine AnyU.take (i := 0) (v := ?v19) rfl (by kernel_rfl) (by kernel_rfl) (by kernel_rfl) (by kernel_rfl) (fun _ _ _ h => h) (Or.inl ⟨by rfl, ?hy19⟩) hHeld ?r19
              case hy19 => (intro w hSw; (try dsimp only at hSw); go_simp <;> with_reducible rfl)
              simp only [Act.put, List.setIfInBounds_toArray, List.set_cons_zero, List.set_cons_succ]
              refine AnyU.take (i := 1) (v := ?v20) rfl (by kernel_rfl) (by kernel_rfl) (by kernel_rfl) (by kernel_rfl) (fun _ _ _ h => h) (Or.inl ⟨by rfl, ?hy20⟩) hHeld ?r20
              case hy20 => (intro w hSw; (try dsimp only at hSw); go_simp <;> with_reducible rfl)
              simp only [Act.put, List.setIfInBounds_toArray, List.set_cons_zero, List.set_cons_succ]
              refine AnyU.take (i := 2) (v := ?v21) rfl (by kernel_rfl) (by kernel_rfl) (by kernel_rfl) (by kernel_rfl) (fun _ _ _ h => h) (Or.inl ⟨by rfl, ?hy21⟩) hHeld ?r21
              case hy21 => (intro w hSw; (try dsimp only at hSw); go_simp <;> with_reducible rfl)
              simp only [Act.put, List.setIfInBounds_toArray, List.set_cons_zero, List.set_cons_succ]
              refine AnyU.take (i := 3) (v := ?v22) rfl (by kernel_rfl) (by kernel_rfl) (by kernel_rfl) (by kernel_rfl) (fun _ _ _ h => h) (Or.inl ⟨by rfl, ?hy22⟩) hHeld ?r22
              case hy22 => (intro w hSw; (try dsimp only at hSw); go_simp <;> with_reducible rfl)
              simp only [Act.put, List.setIfInBounds_toArray, List.set_cons_zero, List.set_cons_succ]
              refine AnyU.take (i := 4) (v := ?v23) rfl (by kernel_rfl) (by kernel_rfl) (by kernel_rfl) (by kernel_rfl) (fun _ _ _ h => h) (Or.inl ⟨by rfl, ?hy23⟩) hHeld ?r23
              case hy23 => (intro w hSw; (try dsimp only at hSw); go_simp <;> with_reducible rfl)
              simp only [Act.put, List.setIfInBounds_toArray, List.set_cons_zero, List.set_cons_succ]
              refine AnyU.take (i := 5) (v := ?v24) rfl (by kernel_rfl) (by kernel_rfl) (by kernel_rfl) (by kernel_rfl) (fun _ _ _ h => h) (Or.inl ⟨by rfl, ?hy24⟩) hHeld ?r24
              case hy24 => (intro w hSw; (try dsimp only at hSw); go_simp <;> with_reducible rfl)
              simp only [Act.put, List.setIfInBounds_toArray, List.set_cons_zero, List.set_cons_succ]
              refine AnyU.take (i := 6) (v := ?v25) rfl (by kernel_rfl) (by kernel_rfl) (by kernel_rfl) (by kernel_rfl) (fun _ _ _ h => h) (Or.inl ⟨by rfl, ?hy25⟩) hHeld ?r25
              case hy25 => (intro w hSw; (try dsimp only at hSw); go_simp <;> with_reducible rfl)
              simp only [Act.put, List.setIfInBounds_toArray, List.set_cons_zero, List.set_cons_succ]
              refine AnyU.take (i := 7) (v := ?v26) rfl (by kernel_rfl) (by kernel_rfl) (by kernel_rfl) (by kernel_rfl) (fun _ _ _ h => h) (Or.inl ⟨by rfl, ?hy26⟩) hHeld ?r26
              case hy26 => (intro w hSw; (try dsimp only at hSw); go_simp <;> with_reducible rfl)
              simp only [Act.put, List.setIfInBounds_toArray, List.set_cons_zero, List.set_cons_succ]
              refine AnyU.take (i := 8) (v := ?v27) rfl (by kernel_rfl) (by kernel_rfl) (by kernel_rfl) (by kernel_rfl) (fun _ _ _ h => h) (Or.inl ⟨by rfl, ?hy27⟩) hHeld ?r27
              case hy27 => (intro w hSw; (try dsimp only at hSw); go_simp <;> with_reducible rfl)
              simp only [Act.put, List.setIfInBounds_toArray, List.set_cons_zero, List.set_cons_succ]
              refine AnyU.take (i := 9) (v := ?v28) rfl (by kernel_rfl) (by kernel_rfl) (by kernel_rfl) (by kernel_rfl) (fun _ _ _ h => h) (Or.inl ⟨by rfl, ?hy28⟩) hHeld ?r28
              case hy28 => (intro w hSw; (try dsimp only at hSw); go_simp <;> with_reducible rfl)
              simp only [Act.put, List.setIfInBounds_toArray, List.set_cons_zero, List.set_cons_succ]
              refine AnyU.take (i := 10) (v := ?v29) rfl (by kernel_rfl) (by kernel_rfl) (by kernel_rfl) (by kernel_rfl) (fun _ _ _ h => h) (Or.inl ⟨by rfl, ?hy29⟩) hHeld ?r29
              case hy29 => (intro w hSw; (try dsimp only at hSw); go_simp <;> with_reducible rfl)
              simp only [Act.put, List.setIfInBounds_toArray, List.set_cons_zero, List.set_cons_succ]
              refine AnyU.take (i := 11) (v := ?v30) rfl (by kernel_rfl) (by kernel_rfl) (by kernel_rfl) (by kernel_rfl) (fun _ _ _ h => h) (Or.inl ⟨by rfl, ?hy30⟩) hHeld ?r30
              case hy30 => (intro w hSw; (try dsimp only at hSw); go_simp <;> with_reducible rfl)
              simp only [Act.put, List.setIfInBounds_toArray, List.set_cons_zero, List.set_cons_succ]
              refine AnyU.take (i := 12) (v := ?v31) rfl (by kernel_rfl) (by kernel_rfl) (by kernel_rfl) (by kernel_rfl) (fun _ _ _ h => h) (Or.inl ⟨by rfl, ?hy31⟩) hHeld ?r31
              case hy31 => (intro w hSw; (try dsimp only at hSw); go_simp <;> with_reducible rfl)
              simp only [Act.put, List.setIfInBounds_toArray, List.set_cons_zero, List.set_cons_succ]
              refine AnyU.take (i := 13) (v := ?v32) rfl (by kernel_rfl) (by kernel_rfl) (by kernel_rfl) (by kernel_rfl) (fun _ _ _ h => h) (Or.inl ⟨by rfl, ?hy32⟩) hHeld ?r32
              case hy32 => (intro w hSw; (try dsimp only at hSw); go_simp <;> with_reducible rfl)
              simp only [Act.put, List.setIfInBounds_toArray, List.set_cons_zero, List.set_cons_succ]
              refine AnyU.take (i := 14) (v := ?v33) rfl (by kernel_rfl) (by kernel_rfl) (by kernel_rfl) (by kernel_rfl) (fun _ _ _ h => h) (Or.inl ⟨by rfl, ?hy33⟩) hHeld ?r33
              case hy33 => (intro w hSw; (try dsimp only at hSw); go_simp <;> with_reducible rfl)
              simp only [Act.put, List.setIfInBounds_toArray, List.set_cons_zero, List.set_cons_succ]
              refine AnyU.take (i := 15) (v := ?v34) rfl (by kernel_rfl) (by kernel_rfl) (by kernel_rfl) (by kernel_rfl) (fun _ _ _ h => h) (Or.inl ⟨by rfl, ?hy34⟩) hHeld ?r34
              case hy34 => (intro w hSw; (try dsimp only at hSw); go_simp <;> with_reducible rfl)
              simp only [Act.put, List.setIfInBounds_toArray, List.set_cons_zero, List.set_cons_succ]
              refine AnyU.take (i := 16) (v := ?v35) rfl (by kernel_rfl) (by kernel_rfl) (by kernel_rfl) (by kernel_rfl) (fun _ _ _ h => h) (Or.inl ⟨by rfl, ?hy35⟩) hHeld ?r35
              case hy35 => (intro w hSw; (try dsimp only at hSw); go_simp <;> with_reducible rfl)
              simp only [Act.put, List.setIfInBounds_toArray, List.set_cons_zero, List.set_cons_succ]
              refine AnyU.take (i := 17) (v := ?v36) rfl (by kernel_rfl) (by kernel_rfl) (by kernel_rfl) (by kernel_rfl) (fun _ _ _ h => h) (Or.inl ⟨by rfl, ?hy36⟩) hHeld ?r36
              case hy36 => (intro w hSw; (try dsimp only at hSw); go_simp <;> with_reducible rfl)
              simp only [Act.put, List.setIfInBounds_toArray, List.set_cons_zero, List.set_cons_succ]
              refine AnyU.over (by kernel_rfl) ?_ _
              go_wp2_with fail
              refine bodyPost_ret (v := .tuple #[.slice none 0 0, .int .i64 0, .int .i64 170]) (by simp [results, Tryd.results36, go_sem]) rfl ?_
              unfold RefTakenP; refine ⟨none, 0, by rw [HT0.out, HW0.out, HCE.out]; rfl, by rw [HT0.out]; exact World.ownsRow_nil _ _ _ _, ?_⟩
              exact HBW.out.drew
            · have d2 : decide ((l.length : Int) ≤ z) = false := decide_eq_false hz2
              have hoz : okZ l z = true := by unfold okZ; rw [decide_eq_true (show -1 ≤ z by omega), decide_eq_true (show z < (l.length : Int) by omega)]; rfl
              have HNEXT : Hid (∀ (j : Nat) l z, j < k + 1 → ls[j]? = some l → zs[j]? = some z → okZ l z = true) := hide (fun j l' z' hj h1 h2 => by
                rcases Nat.lt_or_ge j k with h | h
                · exact HALL.out j l' z' h h1 h2
                · obtain rfl : j = k := by omega
                  have e1 := HLX.out
                  have e2 := HZX.out
                  rw [h1] at e1
                  rw [h2] at e2
                  injection e1 with e1
                  injection e2 with e2
                  rw [e1, e2]
                  exact hoz)
              have HSTEP := hide (outT_step HLN.out HLX.out HZX.out)
              have G1 : Hid (∀ x : Nat, ∀ u ∈ [gV x], u.oneCell' = true) := hide (fun x u hu => by simp at hu; subst hu; rfl)
              have G2 : Hid (k + 1 ≤ maxLen) := hide (by unfold maxLen; have := HMZ.out; omega)
              have G3 : Hid ((k + 1) * 4 ≤ 140737488355328) := hide (by have := HMZ.out; omega)
              have HLT := hide hlt
              by_cases hneg : z < 0
              · have d3 : decide (z < 0) = true := decide_eq_true hneg
                obtain rfl : z = -1 := by omega
                have HPK : Hid (pickO l (-1) = (0, 0)) := hide (pick_none l)
                clear hoz hz1 hz2 hneg
                go_upto_region 11 with fail
                have hS0 := HSC.out wr.drew rfl
                refine wp_region_U 18 (fun X => X.cell? ⟨w.heap.size, 1, none⟩ = some (.slice (some ⟨bb, bo, none⟩) ls.length c) ∧ X.cell? ⟨bb, bo + k, none⟩ = some (.slice a1 l.length a2) ∧ X.cell? ⟨zb, zo + k, none⟩ = some (.int .i64 (-1))) rfl hS0 (fun hHeld => ?_)
                clear hS0
                refine AnyU.take (i := 0) (v := ?v37) rfl (by kernel_rfl) (by kernel_rfl) (by kernel_rfl) (by kernel_rfl) (fun _ _ _ h => h) (Or.inl ⟨by rfl, ?hy37⟩) hHeld ?r37
                case hy37 => (intro w hSw; (try dsimp only at hSw); go_simp <;> with_reducible rfl)
                simp only [Act.put, List.setIfInBounds_toArray, List.set_cons_zero, List.set_cons_succ]
                refine AnyU.take (i := 1) (v := ?v38) rfl (by kernel_rfl) (by kernel_rfl) (by kernel_rfl) (by kernel_rfl) (fun _ _ _ h => h) (Or.inl ⟨by rfl, ?hy38⟩) hHeld ?r38
                case hy38 => (intro w hSw; (try dsimp only at hSw); go_simp <;> with_reducible rfl)
                simp only [Act.put, List.setIfInBounds_toArray, List.set_cons_zero, List.set_cons_succ]
                refine AnyU.take (i := 2) (v := ?v39) rfl (by kernel_rfl) (by kernel_rfl) (by kernel_rfl) (by kernel_rfl) (fun _ _ _ h => h) (Or.inl ⟨by rfl, ?hy39⟩) hHeld ?r39
                case hy39 => (intro w hSw; (try dsimp only at hSw); go_simp <;> with_reducible rfl)
                simp only [Act.put, List.setIfInBounds_toArray, List.set_cons_zero, List.set_cons_succ]
                refine AnyU.take (i := 3) (v := ?v40) rfl (by kernel_rfl) (by kernel_rfl) (by kernel_rfl) (by kernel_rfl) (fun _ _ _ h => h) (Or.inl ⟨by rfl, ?hy40⟩) hHeld ?r40
                case hy40 => (intro w hSw; (try dsimp only at hSw); go_simp <;> with_reducible rfl)
                simp only [Act.put, List.setIfInBounds_toArray, List.set_cons_zero, List.set_cons_succ]
                refine AnyU.take (i := 4) (v := ?v41) rfl (by kernel_rfl) (by kernel_rfl) (by kernel_rfl) (by kernel_rfl) (fun _ _ _ h => h) (Or.inl ⟨by rfl, ?hy41⟩) hHeld ?r41
                case hy41 => (intro w hSw; (try dsimp only at hSw); go_simp <;> with_reducible rfl)
                simp only [Act.put, List.setIfInBounds_toArray, List.set_cons_zero, List.set_cons_succ]
                refine AnyU.take (i := 5) (v := ?v42) rfl (by kernel_rfl) (by kernel_rfl) (by kernel_rfl) (by kernel_rfl) (fun _ _ _ h => h) (Or.inl ⟨by rfl, ?hy42⟩) hHeld ?r42
                case hy42 => (intro w hSw; (try dsimp only at hSw); go_simp <;> with_reducible rfl)
                simp only [Act.put, List.setIfInBounds_toArray, List.set_cons_zero, List.set_cons_succ]
                refine AnyU.take (i := 6) (v := ?v43) rfl (by kernel_rfl) (by kernel_rfl) (by kernel_rfl) (by kernel_rfl) (fun _ _ _ h => h) (Or.inl ⟨by rfl, ?hy43⟩) hHeld ?r43
                case hy43 => (intro w hSw; (try dsimp only at hSw); go_simp <;> with_reducible rfl)
                simp only [Act.put, List.setIfInBounds_toArray, List.set_cons_zero, List.set_cons_succ]
                refine AnyU.take (i := 7) (v := ?v44) rfl (by kernel_rfl) (by kernel_rfl) (by kernel_rfl) (by kernel_rfl) (fun _ _ _ h => h) (Or.inl ⟨by rfl, ?hy44⟩) hHeld ?r44
                case hy44 => (intro w hSw; (try dsimp only at hSw); go_simp <;> with_reducible rfl)
                simp only [Act.put, List.setIfInBounds_toArray, List.set_cons_zero, List.set_cons_succ]
                refine AnyU.take (i := 8) (v := ?v45) rfl (by kernel_rfl) (by kernel_rfl) (by kernel_rfl) (by kernel_rfl) (fun _ _ _ h => h) (Or.inl ⟨by rfl, ?hy45⟩) hHeld ?r45
                case hy45 => (intro w hSw; (try dsimp only at hSw); go_simp <;> with_reducible rfl)
                simp only [Act.put, List.setIfInBounds_toArray, List.set_cons_zero, List.set_cons_succ]
                refine AnyU.take (i := 9) (v := ?v46) rfl (by kernel_rfl) (by kernel_rfl) (by kernel_rfl) (by kernel_rfl) (fun _ _ _ h => h) (Or.inl ⟨by rfl, ?hy46⟩) hHeld ?r46
                case hy46 => (intro w hSw; (try dsimp only at hSw); go_simp <;> with_reducible rfl)
                simp only [Act.put, List.setIfInBounds_toArray, List.set_cons_zero, List.set_cons_succ]
                refine AnyU.take (i := 10) (v := ?v47) rfl (by kernel_rfl) (by kernel_rfl) (by kernel_rfl) (by kernel_rfl) (fun _ _ _ h => h) (Or.inl ⟨by rfl, ?hy47⟩) hHeld ?r47
                case hy47 => (intro w hSw; (try dsimp only at hSw); go_simp <;> with_reducible rfl)
                simp only [Act.put, List.setIfInBounds_toArray, List.set_cons_zero, List.set_cons_succ]
                refine AnyU.take (i := 11) (v := ?v48) rfl (by kernel_rfl) (by kernel_rfl) (by kernel_rfl) (by kernel_rfl) (fun _ _ _ h => h) (Or.inl ⟨by rfl, ?hy48⟩) hHeld ?r48
                case hy48 => (intro w hSw; (try dsimp only at hSw); go_simp <;> with_reducible rfl)
                simp only [Act.put, List.setIfInBounds_toArray, List.set_cons_zero, List.set_cons_succ]
                refine AnyU.take (i := 12) (v := ?v49) rfl (by kernel_rfl) (by kernel_rfl) (by kernel_rfl) (by kernel_rfl) (fun _ _ _ h => h) (Or.inl ⟨by rfl, ?hy49⟩) hHeld ?r49
                case hy49 => (intro w hSw; (try dsimp only at hSw); go_simp <;> with_reducible rfl)
                simp only [Act.put, List.setIfInBounds_toArray, List.set_cons_zero, List.set_cons_succ]
                refine AnyU.take (i := 13) (v := ?v50) rfl (by kernel_rfl) (by kernel_rfl) (by kernel_rfl) (by kernel_rfl) (fun _ _ _ h => h) (Or.inl ⟨by rfl, ?hy50⟩) hHeld ?r50
                case hy50 => (intro w hSw; (try dsimp only at hSw); go_simp <;> with_reducible rfl)
                simp only [Act.put, List.setIfInBounds_toArray, List.set_cons_zero, List.set_cons_succ]
                refine AnyU.take (i := 14) (v := ?v51) rfl (by kernel_rfl) (by kernel_rfl) (by kernel_rfl) (by kernel_rfl) (fun _ _ _ h => h) (Or.inl ⟨by rfl, ?hy51⟩) hHeld ?r51
                case hy51 => (intro w hSw; (try dsimp only at hSw); go_simp <;> with_reducible rfl)
                simp only [Act.put, List.setIfInBounds_toArray, List.set_cons_zero, List.set_cons_succ]
                refine AnyU.take (i := 15) (v := ?v52) rfl (by kernel_rfl) (by kernel_rfl) (by kernel_rfl) (by kernel_rfl) (fun _ _ _ h => h) (Or.inl ⟨by rfl, ?hy52⟩) hHeld ?r52
                case hy52 => (intro w hSw; (try dsimp only at hSw); go_simp <;> with_reducible rfl)
                simp only [Act.put, List.setIfInBounds_toArray, List.set_cons_zero, List.set_cons_succ]
                refine AnyU.take (i := 16) (v := ?v53) rfl (by kernel_rfl) (by kernel_rfl) (by kernel_rfl) (by kernel_rfl) (fun _ _ _ h => h) (Or.inl ⟨by rfl, ?hy53⟩) hHeld ?r53
                case hy53 => (intro w hSw; (try dsimp only at hSw); go_simp <;> with_reducible rfl)
                simp only [Act.put, List.setIfInBounds_toArray, List.set_cons_zero, List.set_cons_succ]
                refine AnyU.take (i := 17) (v := ?v54) rfl (by kernel_rfl) (by kernel_rfl) (by kernel_rfl) (by kernel_rfl) (fun _ _ _ h => h) (Or.inl ⟨by rfl, ?hy54⟩) hHeld ?r54
                case hy54 => (intro w hSw; (try dsimp only at hSw); go_simp <;> with_reducible rfl)
                simp only [Act.put, List.setIfInBounds_toArray, List.set_cons_zero, List.set_cons_succ]
                refine AnyU.over (by kernel_rfl) ?_ _
                go_upto_region 14 with fail
                have HBD := hide (HBR.out.drew)
                have HOD : Hid (wr.drew.ownsRow w1.heap.size 25 1 (.slice A2 k c2) k (((outL (ls.take k) (zs.take k)).map (·.1)).map gV)) := hide (own_below HO.out ((Below.refl _ _).drew) (Nat.le_refl _))
                generalize wr.drew = wd at *
                go_wp2_with (at_builtin; refine wpList_append_any rfl (.tmp 60) (.tmp 61) 23 rfl w1.heap.size 25 _ 1 4 infoG Tryd.underlying23 rfl (by decide) _ k (((outL (ls.take k) (zs.take k)).map (·.1)).map gV) rfl (own_below HOD.out ((Below.refl _ _).alloc (Nat.le_refl _) _) (Nat.le_refl _)) _ (some ⟨wd.heap.size, 0, none⟩) 1 1 [gV 0] rfl (reads_row7 (xs := [gV 0]) (heap_alloc_new wd _) rfl) (G1.out 0) G2.out G3.out (by have := HBD.out.size; simp; omega) ?_; intro v4 w4 hown4 hg4 _; obtain ⟨A4, c4, hv4, _⟩ := own_sh hown4; subst hv4; have HO4 := hide hown4; have HB4 : Hid (Below w1.heap.size w1 w4) := hide ((HBD.out.alloc HBD.out.size _).grown hg4 (by have := HBD.out.size; simp; omega) (fun j hj => (HOD.out.lt j hj).1)); have HG4 := hide hg4; clear hown4 hg4)
                go_roundw
                case rel => exact ⟨k + 1, A4, c4, HLT.out, by go_num, by rw [HSTEP.out, sumC_snoc, HPK.out, Int.add_zero], rfl, by rw [HSTEP.out, HPK.out, List.map_append, List.map_append]; exact HO4.out, HNEXT.out, HB4.out⟩
                case measure => have := HLT.out; simp [intOf]; omega
              · have d3 : decide (z < 0) = false := decide_eq_false hneg
                obtain ⟨q, rfl⟩ : ∃ q : Nat, z = q := ⟨z.toNat, by omega⟩
                have hql : q < l.length := by omega
                obtain ⟨b1, o1, hA1, hbl1, hat1⟩ := Offs.at_ HRO.out (by omega)
                have ha1 : a1 = some ⟨b1, o1, none⟩ := hA1
                subst ha1
                obtain ⟨y0, y1⟩ := hat1 q l[q] (List.getElem?_eq_getElem hql)
                have HPK : Hid (pickO l (q : Int) = l[q]) := hide (by simp [pickO, hql])
                have HOB := hide (outL_bd HGB.out zs)
                have HOK2 : Hid ((outL ls zs)[k]? = some l[q]) := hide (by rw [outL_at, HLX.out, HZX.out]; exact congrArg some HPK.out)
                generalize l[q] = x at *
                obtain ⟨xg, xc⟩ := x
                simp only at y0 y1
                have hqi : (q : Int) < (l.length : Int) := by omega
                have HYD : Hid (∀ X : World, Below wr.heap.size wr X → X.cell? ⟨b1, o1 + q * 2, none⟩ = some (.int .u32 (xg : Int)) ∧ X.cell? ⟨b1, o1 + q * 2 + 1, none⟩ = some (.int .i64 xc) ∧ X.cell? ⟨w.heap.size, 1, none⟩ = some (.slice (some ⟨bb, bo, none⟩) ls.length c) ∧ X.cell? ⟨bb, bo + k, none⟩ = some (.slice (some ⟨b1, o1, none⟩) l.length a2) ∧ X.cell? ⟨zb, zo + k, none⟩ = some (.int .i64 (q : Int))) := hide (fun X hX => by
                  obtain ⟨s1, s2, s3⟩ := HSC.out _ rfl
                  exact ⟨(hX.cell hbl1).trans y0, (hX.cell hbl1).trans y1, (hX.cell (World.block_lt_of_cell? wr _ (by rw [show wr.cell? ⟨w.heap.size, 1, none⟩ = _ from s1]))).trans s1, (hX.cell (World.block_lt_of_cell? wr _ (by rw [show wr.cell? ⟨bb, bo + k, none⟩ = _ from s2]))).trans s2, (hX.cell (World.block_lt_of_cell? wr _ (by rw [show wr.cell? ⟨zb, zo + k, none⟩ = _ from s3]))).trans s3⟩)
                clear hoz hz1 hz2 hneg hA1 hat1 y0 y1 hbl1
                go_upto_region 11 with fail
                have hS0 := HSC.out wr.drew rfl
                refine wp_region_U 18 (fun X => X.cell? ⟨w.heap.size, 1, none⟩ = some (.slice (some ⟨bb, bo, none⟩) ls.length c) ∧ X.cell? ⟨bb, bo + k, none⟩ = some (.slice (some ⟨b1, o1, none⟩) l.length a2) ∧ X.cell? ⟨zb, zo + k, none⟩ = some (.int .i64 (q : Int))) rfl hS0 (fun hHeld => ?_)
                clear hS0
                refine AnyU.take (i := 0) (v := ?v55) rfl (by kernel_rfl) (by kernel_rfl) (by kernel_rfl) (by kernel_rfl) (fun _ _ _ h => h) (Or.inl ⟨by rfl, ?hy55⟩) hHeld ?r55
                case hy55 => (intro w hSw; (try dsimp only at hSw); go_simp <;> with_reducible rfl)
                simp only [Act.put, List.setIfInBounds_toArray, List.set_cons_zero, List.set_cons_succ]
                refine AnyU.take (i := 1) (v := ?v56) rfl (by kernel_rfl) (by kernel_rfl) (by kernel_rfl) (by kernel_rfl) (fun _ _ _ h => h) (Or.inl ⟨by rfl, ?hy56⟩) hHeld ?r56
                case hy56 => (intro w hSw; (try dsimp only at hSw); go_simp <;> with_reducible rfl)
                simp only [Act.put, List.setIfInBounds_toArray, List.set_cons_zero, List.set_cons_succ]
                refine AnyU.take (i := 2) (v := ?v57) rfl (by kernel_rfl) (by kernel_rfl) (by kernel_rfl) (by kernel_rfl) (fun _ _ _ h => h) (Or.inl ⟨by rfl, ?hy57⟩) hHeld ?r57
                case hy57 => (intro w hSw; (try dsimp only at hSw); go_simp <;> with_reducible rfl)
                simp only [Act.put, List.setIfInBounds_toArray, List.set_cons_zero, List.set_cons_succ]
                refine AnyU.take (i := 3) (v := ?v58) rfl (by kernel_rfl) (by kernel_rfl) (by kernel_rfl) (by kernel_rfl) (fun _ _ _ h => h) (Or.inl ⟨by rfl, ?hy58⟩) hHeld ?r58
                case hy58 => (intro w hSw; (try dsimp only at hSw); go_simp <;> with_reducible rfl)
                simp only [Act.put, List.setIfInBounds_toArray, List.set_cons_zero, List.set_cons_succ]
                refine AnyU.take (i := 4) (v := ?v59) rfl (by kernel_rfl) (by kernel_rfl) (by kernel_rfl) (by kernel_rfl) (fun _ _ _ h => h) (Or.inl ⟨by rfl, ?hy59⟩) hHeld ?r59
                case hy59 => (intro w hSw; (try dsimp only at hSw); go_simp <;> with_reducible rfl)
                simp only [Act.put, List.setIfInBounds_toArray, List.set_cons_zero, List.set_cons_succ]
                refine AnyU.take (i := 5) (v := ?v60) rfl (by kernel_rfl) (by kernel_rfl) (by kernel_rfl) (by kernel_rfl) (fun _ _ _ h => h) (Or.inl ⟨by rfl, ?hy60⟩) hHeld ?r60
                case hy60 => (intro w hSw; (try dsimp only at hSw); go_simp <;> with_reducible rfl)
                simp only [Act.put, List.setIfInBounds_toArray, List.set_cons_zero, List.set_cons_succ]
                refine AnyU.take (i := 6) (v := ?v61) rfl (by kernel_rfl) (by kernel_rfl) (by kernel_rfl) (by kernel_rfl) (fun _ _ _ h => h) (Or.inl ⟨by rfl, ?hy61⟩) hHeld ?r61
                case hy61 => (intro w hSw; (try dsimp only at hSw); go_simp <;> with_reducible rfl)
                simp only [Act.put, List.setIfInBounds_toArray, List.set_cons_zero, List.set_cons_succ]
                refine AnyU.take (i := 7) (v := ?v62) rfl (by kernel_rfl) (by kernel_rfl) (by kernel_rfl) (by kernel_rfl) (fun _ _ _ h => h) (Or.inl ⟨by rfl, ?hy62⟩) hHeld ?r62
                case hy62 => (intro w hSw; (try dsimp only at hSw); go_simp <;> with_reducible rfl)
                simp only [Act.put, List.setIfInBounds_toArray, List.set_cons_zero, List.set_cons_succ]
                refine AnyU.take (i := 8) (v := ?v63) rfl (by kernel_rfl) (by kernel_rfl) (by kernel_rfl) (by kernel_rfl) (fun _ _ _ h => h) (Or.inl ⟨by rfl, ?hy63⟩) hHeld ?r63
                case hy63 => (intro w hSw; (try dsimp only at hSw); go_simp <;> with_reducible rfl)
                simp only [Act.put, List.setIfInBounds_toArray, List.set_cons_zero, List.set_cons_succ]
                refine AnyU.take (i := 9) (v := ?v64) rfl (by kernel_rfl) (by kernel_rfl) (by kernel_rfl) (by kernel_rfl) (fun _ _ _ h => h) (Or.inl ⟨by rfl, ?hy64⟩) hHeld ?r64
                case hy64 => (intro w hSw; (try dsimp only at hSw); go_simp <;> with_reducible rfl)
                simp only [Act.put, List.setIfInBounds_toArray, List.set_cons_zero, List.set_cons_succ]
                refine AnyU.take (i := 10) (v := ?v65) rfl (by kernel_rfl) (by kernel_rfl) (by kernel_rfl) (by kernel_rfl) (fun _ _ _ h => h) (Or.inl ⟨by rfl, ?hy65⟩) hHeld ?r65
                case hy65 => (intro w hSw; (try dsimp only at hSw); go_simp <;> with_reducible rfl)
                simp only [Act.put, List.setIfInBounds_toArray, List.set_cons_zero, List.set_cons_succ]
                refine AnyU.take (i := 11) (v := ?v66) rfl (by kernel_rfl) (by kernel_rfl) (by kernel_rfl) (by kernel_rfl) (fun _ _ _ h => h) (Or.inl ⟨by rfl, ?hy66⟩) hHeld ?r66
                case hy66 => (intro w hSw; (try dsimp only at hSw); go_simp <;> with_reducible rfl)
                simp only [Act.put, List.setIfInBounds_toArray, List.set_cons_zero, List.set_cons_succ]
                refine AnyU.take (i := 12) (v := ?v67) rfl (by kernel_rfl) (by kernel_rfl) (by kernel_rfl) (by kernel_rfl) (fun _ _ _ h => h) (Or.inl ⟨by rfl, ?hy67⟩) hHeld ?r67
                case hy67 => (intro w hSw; (try dsimp only at hSw); go_simp <;> with_reducible rfl)
                simp only [Act.put, List.setIfInBounds_toArray, List.set_cons_zero, List.set_cons_succ]
                refine AnyU.take (i := 13) (v := ?v68) rfl (by kernel_rfl) (by kernel_rfl) (by kernel_rfl) (by kernel_rfl) (fun _ _ _ h => h) (Or.inl ⟨by rfl, ?hy68⟩) hHeld ?r68
                case hy68 => (intro w hSw; (try dsimp only at hSw); go_simp <;> with_reducible rfl)
                simp only [Act.put, List.setIfInBounds_toArray, List.set_cons_zero, List.set_cons_succ]
                refine AnyU.take (i := 14) (v := ?v69) rfl (by kernel_rfl) (by kernel_rfl) (by kernel_rfl) (by kernel_rfl) (fun _ _ _ h => h) (Or.inl ⟨by rfl, ?hy69⟩) hHeld ?r69
                case hy69 => (intro w hSw; (try dsimp only at hSw); go_simp <;> with_reducible rfl)
                simp only [Act.put, List.setIfInBounds_toArray, List.set_cons_zero, List.set_cons_succ]
                refine AnyU.take (i := 15) (v := ?v70) rfl (by kernel_rfl) (by kernel_rfl) (by kernel_rfl) (by kernel_rfl) (fun _ _ _ h => h) (Or.inl ⟨by rfl, ?hy70⟩) hHeld ?r70
                case hy70 => (intro w hSw; (try dsimp only at hSw); go_simp <;> with_reducible rfl)
                simp only [Act.put, List.setIfInBounds_toArray, List.set_cons_zero, List.set_cons_succ]
                refine AnyU.take (i := 16) (v := ?v71) rfl (by kernel_rfl) (by kernel_rfl) (by kernel_rfl) (by kernel_rfl) (fun _ _ _ h => h) (Or.inl ⟨by rfl, ?hy71⟩) hHeld ?r71
                case hy71 => (intro w hSw; (try dsimp only at hSw); go_simp <;> with_reducible rfl)
                simp only [Act.put, List.setIfInBounds_toArray, List.set_cons_zero, List.set_cons_succ]
                refine AnyU.take (i := 17) (v := ?v72) rfl (by kernel_rfl) (by kernel_rfl) (by kernel_rfl) (by kernel_rfl) (fun _ _ _ h => h) (Or.inl ⟨by rfl, ?hy72⟩) hHeld ?r72
                case hy72 => (intro w hSw; (try dsimp only at hSw); go_simp <;> with_reducible rfl)
                simp only [Act.put, List.setIfInBounds_toArray, List.set_cons_zero, List.set_cons_succ]
                refine AnyU.over (by kernel_rfl) ?_ _
                go_upto_region 15 with fail
                have HBD := hide (HBR.out.drew)
                have HBdr : Hid (Below wr.heap.size wr wr.drew) := hide ((Below.refl _ _).drew)
                have HOD : Hid (wr.drew.ownsRow w1.heap.size 25 1 (.slice A2 k c2) k (((outL (ls.take k) (zs.take k)).map (·.1)).map gV)) := hide (own_below HO.out ((Below.refl _ _).drew) (Nat.le_refl _))
                generalize wr.drew = wd at *
                have hS0 := HYD.out wd.drew (HBdr.out.trans ((Below.refl _ _).drew.mono HBdr.out.size))
                refine wp_region_U 12 (fun X => X.cell? ⟨b1, o1 + q * 2, none⟩ = some (.int .u32 (xg : Int)) ∧ X.cell? ⟨b1, o1 + q * 2 + 1, none⟩ = some (.int .i64 xc) ∧ X.cell? ⟨w.heap.size, 1, none⟩ = some (.slice (some ⟨bb, bo, none⟩) ls.length c) ∧ X.cell? ⟨bb, bo + k, none⟩ = some (.slice (some ⟨b1, o1, none⟩) l.length a2) ∧ X.cell? ⟨zb, zo + k, none⟩ = some (.int .i64 (q : Int))) rfl hS0 (fun hHeld => ?_)
                clear hS0
                refine AnyU.take (i := 0) (v := ?v73) rfl (by kernel_rfl) (by kernel_rfl) (by kernel_rfl) (by kernel_rfl) (fun _ _ _ h => h) (Or.inl ⟨by rfl, ?hy73⟩) hHeld ?r73
                case hy73 => (intro w hSw; (try dsimp only at hSw); go_simp <;> with_reducible rfl)
                simp only [Act.put, List.setIfInBounds_toArray, List.set_cons_zero, List.set_cons_succ]
                refine AnyU.take (i := 1) (v := ?v74) rfl (by kernel_rfl) (by kernel_rfl) (by kernel_rfl) (by kernel_rfl) (fun _ _ _ h => h) (Or.inl ⟨by rfl, ?hy74⟩) hHeld ?r74
                case hy74 => (intro w hSw; (try dsimp only at hSw); go_simp <;> with_reducible rfl)
                simp only [Act.put, List.setIfInBounds_toArray, List.set_cons_zero, List.set_cons_succ]
                refine AnyU.take (i := 2) (v := ?v75) rfl (by kernel_rfl) (by kernel_rfl) (by kernel_rfl) (by kernel_rfl) (fun _ _ _ h => h) (Or.inl ⟨by rfl, ?hy75⟩) hHeld ?r75
                case hy75 => (intro w hSw; (try dsimp only at hSw); go_simp <;> with_reducible rfl)
                simp only [Act.put, List.setIfInBounds_toArray, List.set_cons_zero, List.set_cons_succ]
                refine AnyU.take (i := 3) (v := ?v76) rfl (by kernel_rfl) (by kernel_rfl) (by kernel_rfl) (by kernel_rfl) (fun _ _ _ h => h) (Or.inl ⟨by rfl, ?hy76⟩) hHeld ?r76
                case hy76 => (intro w hSw; (try dsimp only at hSw); go_simp <;> with_reducible rfl)
                simp only [Act.put, List.setIfInBounds_toArray, List.set_cons_zero, List.set_cons_succ]
                refine AnyU.take (i := 4) (v := ?v77) rfl (by kernel_rfl) (by kernel_rfl) (by kernel_rfl) (by kernel_rfl) (fun _ _ _ h => h) (Or.inl ⟨by rfl, ?hy77⟩) hHeld ?r77
                case hy77 => (intro w hSw; (try dsimp only at hSw); go_simp <;> with_reducible rfl)
                simp only [Act.put, List.setIfInBounds_toArray, List.set_cons_zero, List.set_cons_succ]
                refine AnyU.take (i := 5) (v := ?v78) rfl (by kernel_rfl) (by kernel_rfl) (by kernel_rfl) (by kernel_rfl) (fun _ _ _ h => h) (Or.inl ⟨by rfl, ?hy78⟩) hHeld ?r78
                case hy78 => (intro w hSw; (try dsimp only at hSw); go_simp <;> with_reducible rfl)
                simp only [Act.put, List.setIfInBounds_toArray, List.set_cons_zero, List.set_cons_succ]
                refine AnyU.take (i := 6) (v := ?v79) rfl (by kernel_rfl) (by kernel_rfl) (by kernel_rfl) (by kernel_rfl) (fun _ _ _ h => h) (Or.inl ⟨by rfl, ?hy79⟩) hHeld ?r79
                case hy79 => (intro w hSw; (try dsimp only at hSw); go_simp <;> with_reducible rfl)
                simp only [Act.put, List.setIfInBounds_toArray, List.set_cons_zero, List.set_cons_succ]
                refine AnyU.take (i := 7) (v := ?v80) rfl (by kernel_rfl) (by kernel_rfl) (by kernel_rfl) (by kernel_rfl) (fun _ _ _ h => h) (Or.inl ⟨by rfl, ?hy80⟩) hHeld ?r80
                case hy80 => (intro w hSw; (try dsimp only at hSw); go_simp <;> with_reducible rfl)
                simp only [Act.put, List.setIfInBounds_toArray, List.set_cons_zero, List.set_cons_succ]
                refine AnyU.take (i := 8) (v := ?v81) rfl (by kernel_rfl) (by kernel_rfl) (by kernel_rfl) (by kernel_rfl) (fun _ _ _ h => h) (Or.inl ⟨by rfl, ?hy81⟩) hHeld ?r81
                case hy81 => (intro w hSw; (try dsimp only at hSw); go_simp <;> with_reducible rfl)
                simp only [Act.put, List.setIfInBounds_toArray, List.set_cons_zero, List.set_cons_succ]
                refine AnyU.take (i := 9) (v := ?v82) rfl (by kernel_rfl) (by kernel_rfl) (by kernel_rfl) (by kernel_rfl) (fun _ _ _ h => h) (Or.inl ⟨by rfl, ?hy82⟩) hHeld ?r82
                case hy82 => (intro w hSw; (try dsimp only at hSw); go_simp <;> with_reducible rfl)
                simp only [Act.put, List.setIfInBounds_toArray, List.set_cons_zero, List.set_cons_succ]
                refine AnyU.take (i := 10) (v := ?v83) rfl (by kernel_rfl) (by kernel_rfl) (by kernel_rfl) (by kernel_rfl) (fun _ _ _ h => h) (Or.inl ⟨by rfl, ?hy83⟩) hHeld ?r83
                case hy83 => (intro w hSw; (try dsimp only at hSw); go_simp <;> with_reducible rfl)
                simp only [Act.put, List.setIfInBounds_toArray, List.set_cons_zero, List.set_cons_succ]
                refine AnyU.next (js := [11]) (by kernel_rfl) (by simp) (NextU.cons rfl (fun K hK => ?_) NextU.nil)
                go_simp
                have hba : Below wd.heap.size wd (wd.alloc (.cells #[.int .u32 0, .int .i64 0] 74)).drew := ((Below.refl _ _).alloc (Nat.le_refl _) _).drew
                have hS1 := HYD.out _ (HBdr.out.trans (hba.mono HBdr.out.size))
                have HBA := hide hba
                have HNA : Hid ((wd.alloc (.cells #[.int .u32 0, .int .i64 0] 74)).drew.heap[wd.heap.size]? = some (.cells #[.int .u32 0, .int .i64 0] 74 (0, 0))) := hide (heap_alloc_new wd _)
                clear hba
                refine hK.out _ _ (fun _ => hS1) (fun hHeld => ?_)
                replace hHeld := hHeld (by decide)
                try simp only [Act.put, List.setIfInBounds_toArray, List.set_cons_zero, List.set_cons_succ]
                clear hS1
                generalize (wd.alloc (.cells #[.int .u32 0, .int .i64 0] 74)).drew = wn at *
                have q0 := cell_of_row _ _ 0 _ _ (0, 0) HNA.out
                have q1 := cell_of_row _ _ 1 _ _ (0, 0) HNA.out
                have p0 := frozen_of_row _ _ 0 _ _ HNA.out
                have p1 := frozen_of_row _ _ 1 _ _ HNA.out
                simp only [List.getElem?_toArray, List.getElem?_cons_zero, List.getElem?_cons_succ] at q0 q1
                refine AnyU.next (js := [12]) (by kernel_rfl) (by simp) (NextU.cons rfl (fun K hK => ?_) NextU.nil)
                go_simp
                refine hK.out _ _ (fun h => absurd h (by decide)) (fun _ => ?_)
                try simp only [Act.put, List.setIfInBounds_toArray, List.set_cons_zero, List.set_cons_succ]
                refine AnyU.over (by kernel_rfl) ?_ _
                clear q0 q1 p0 p1 hHeld
                have HNN : Hid (((wn.setCell ⟨wd.heap.size, 0, none⟩ (.int .u32 (xg : Int))).setCell ⟨wd.heap.size, 1, none⟩ (.int .i64 xc)).heap[wd.heap.size]? = some (.cells #[.int .u32 (xg : Int), .int .i64 xc] 74 (0, 0))) := hide (setCell_block (setCell_block HNA.out 0 _) 1 _)
                have HBW2 : Hid (Below wd.heap.size wd ((wn.setCell ⟨wd.heap.size, 0, none⟩ (.int .u32 (xg : Int))).setCell ⟨wd.heap.size, 1, none⟩ (.int .i64 xc))) := hide ((HBA.out.setCell (Nat.le_refl _) _).setCell (Nat.le_refl _) _)
                go_upto_region 16 with fail
                generalize (wn.setCell ⟨wd.heap.size, 0, none⟩ (.int .u32 (xg : Int))).setCell ⟨wd.heap.size, 1, none⟩ (.int .i64 xc) = w3 at *
                have HBN := hide (HBD.out.trans (HBW2.out.mono HBD.out.size))
                have HON := hide (own_below HOD.out HBW2.out (Nat.le_refl _))
                have q0 := cell_of_row _ _ 0 _ _ (0, 0) HNN.out
                simp only [List.getElem?_toArray, List.getElem?_cons_zero, List.getElem?_cons_succ] at q0
                have hsb := sumC_bd (outL (ls.take k) (zs.take k)) (fun o ho => outL_bd (fun l' hl' => HGB.out l' (List.mem_of_mem_take hl')) _ o ho)
                have hxb := HOB.out _ (List.mem_of_getElem? HOK2.out)
                have hlk : (outL (ls.take k) (zs.take k)).length ≤ 32 := by unfold outL; rw [List.length_zipWith, List.length_take, List.length_take]; have := HMZ.out; omega
                simp only at hxb
                have hw1 : IntKind.i64.wrap (sumC (outL (ls.take k) (zs.take k)) + xc) = sumC (outL (ls.take k) (zs.take k)) + xc := Go.IntWalk.i64_in _ (by omega)
                clear hsb hxb hlk
                go_wp2_with (at_builtin; refine wpList_append_any rfl (.tmp 74) (.tmp 77) 23 rfl w1.heap.size 25 _ 1 4 infoG Tryd.underlying23 rfl (by decide) _ k (((outL (ls.take k) (zs.take k)).map (·.1)).map gV) rfl (own_below HON.out ((Below.refl _ _).alloc (Nat.le_refl _) _) (Nat.le_refl _)) _ (some ⟨w3.heap.size, 0, none⟩) 1 1 [gV xg] rfl (reads_row7 (xs := [gV xg]) (heap_alloc_new w3 _) rfl) (G1.out xg) G2.out G3.out (by have := HBN.out.size; simp; omega) ?_; intro v4 w4 hown4 hg4 _; obtain ⟨A4, c4, hv4, _⟩ := own_sh hown4; subst hv4; have HO4 := hide hown4; have HB4 : Hid (Below w1.heap.size w1 w4) := hide ((HBN.out.alloc HBN.out.size _).grown hg4 (by have := HBN.out.size; simp; omega) (fun j hj => (HON.out.lt j hj).1)); have HN4 : Hid (w4.heap[wd.heap.size]? = some (.cells #[.int .u32 (xg : Int), .int .i64 xc] 74 (0, 0))) := hide ((hg4.block _ (by have := lt_of_block HNN.out; simp; omega) (fun e => own_ne HON.out HNN.out (fun cur' e => by injection e with _ e _; exact absurd e (by decide)) e.symm)).trans ((Below.heap_alloc _ _ _ (lt_of_block HNN.out)).trans HNN.out)); clear hown4 hg4; have q1 := cell_of_row _ _ 1 _ _ (0, 0) HN4.out; simp only [List.getElem?_toArray, List.getElem?_cons_zero, List.getElem?_cons_succ] at q1)
                go_roundw
                case rel => exact ⟨k + 1, A4, c4, HLT.out, by go_num, by rw [HSTEP.out, sumC_snoc, HPK.out], rfl, by rw [HSTEP.out, HPK.out, List.map_append, List.map_append]; exact HO4.out, HNEXT.out, HB4.out⟩
                case measure => have := HLT.out; simp [intOf]; omega
        · obtain rfl : k = zs.length := by omega
          have e1 : outL (ls.take zs.length) (zs.take zs.length) = outL ls zs := by rw [List.take_of_length_le (Nat.le_refl zs.length), List.take_of_length_le (by have := HLN.out; omega)]
          rw [e1] at HO
          have HOE := hide HO.out
          have hne := chE_apart HLN.out (fun j l z hl hz => HALL.out j l z (List.getElem?_eq_some_iff.1 hz).1 hl hz)
          have HNE := hide hne
          have HGS : Hid (∀ g ∈ (outL ls zs).map (·.1), g < 4294967296) := hide (fun g hg => by
            obtain ⟨o, ho, rfl⟩ := List.mem_map.1 hg
            exact outL_wide HW.out zs o ho)
          have HOL : Hid (((outL ls zs).map (·.1)).length = zs.length) := hide (by rw [List.length_map, outL_len HLN.out, HLN.out])
          have HONE : Hid (One gV wr wr.heap.size A2 ((outL ls zs).map (·.1))) := hide (One.of_own HOE.out HOL.out)
          have hra := refapart_any A2 c2 ((outL ls zs).map (·.1)) wr HONE.out (by rw [HOL.out]; have := HMZ.out; omega) HGS.out
          rw [HOL.out] at hra
          have HRA := hide hra
          unfold ValPost at HRA
          have HAG : Hid ((apartG ((outL ls zs).map (·.1))).2 = apartB ((outL ls zs).map (·.1))) := hide (by unfold apartG; split <;> simp_all)
          clear hne hra e1 HO
          rw [HAG.out] at HRA
          generalize (apartG ((outL ls zs).map (·.1))).1 = ag at *
          rcases HNE.out with ⟨hap, hc0⟩ | ⟨hap, hc0⟩
          · rw [hap] at HRA
            have HCE : Hid (chErr n ls zs = 0) := hide (HC2.out.trans hc0)
            have HT0 : Hid (chTaken n ls zs = (outL ls zs).map (·.1)) := hide (by rw [HTL.out, HCE.out, if_neg (by simp)])
            have HW0 : Hid (chWorth n ls zs = sumC (outL ls zs)) := hide (by rw [HWV.out, HCE.out, if_neg (by simp)])
            have e1 : outL (ls.take zs.length) (zs.take zs.length) = outL ls zs := by rw [List.take_of_length_le (Nat.le_refl zs.length), List.take_of_length_le (by have := HLN.out; omega)]
            rw [e1]
            clear hap hc0 e1 HNE HAG HEND HC2 HTL HWV
            go_wp2_with (go_at_call 14; refine (HRA.out).mono ?_; rintro e w7 ⟨rfl, hb7⟩; have HB7 := hide hb7; clear hb7)
            refine bodyPost_ret (v := .tuple #[.slice A2 zs.length c2, .int .i64 (sumC (outL ls zs)), .int .i64 0]) (by simp [results, Tryd.results36, go_sem]) rfl ?_
            unfold RefTakenP
            exact ⟨A2, c2, by rw [HT0.out, HW0.out, HCE.out, HOL.out], by rw [HT0.out, HOL.out]; exact own_base (own_below HOE.out HB7.out (Nat.le_refl _)) HB1.out.size, HBW.out.trans (HB7.out.mono HBW.out.size)⟩
          · rw [hap] at HRA
            have HCE : Hid (chErr n ls zs = 170) := hide (HC2.out.trans hc0)
            obtain ⟨ht0, hw0⟩ := HEND.out 170 HCE.out (by decide)
            have HT0 := hide ht0
            have HW0 := hide hw0
            clear hap hc0 HNE HAG ht0 hw0 HEND HC2 HTL HWV
            go_wp2_with (go_at_call 14; refine (HRA.out).mono ?_; rintro e w7 ⟨rfl, hb7⟩; have HB7 := hide hb7; clear hb7)
            refine bodyPost_ret (v := .tuple #[.slice none 0 0, .int .i64 0, .int .i64 170]) (by simp [results, Tryd.results36, go_sem]) rfl ?_
            unfold RefTakenP
            exact ⟨none, 0, by rw [HT0.out, HW0.out, HCE.out]; rfl, by rw [HT0.out]; exact World.ownsRow_nil _ _ _ _, HBW.out.trans (HB7.out.mono HBW.out.size)⟩
    · have hne : (((zs.length : Nat) : Int) != (ls.length : Int)) = true := by simp; omega
      have HCE : Hid (chErr n ls zs = 170) := hide (HC2.out.trans (chE_long hlen))
      obtain ⟨ht0, hw0⟩ := HEND.out 170 HCE.out (by decide)
      have HT0 := hide ht0
      have HW0 := hide hw0
      clear ht0 hw0 HEND HC2 HTL HWV hlen
      go_wp2_with fail
      refine bodyPost_ret (v := .tuple #[.slice none 0 0, .int .i64 0, .int .i64 170]) (by simp [results, Tryd.results36, go_sem]) rfl ?_
      unfold RefTakenP
      exact ⟨none, 0, by rw [HT0.out, HW0.out, HCE.out]; rfl, by rw [HT0.out]; exact World.ownsRow_nil _ _ _ _, HB1.out⟩
  · have h2 : (checkT n ls).2.2 = 2 := by
      rcases checkT_cases n ls with h | h
      · exact h
      · exact absurd (checkT_ok.1 (by rw [h])) hok
    have HCE2 : Hid (chErr n ls zs = 2) := hide (by rw [HCE.out, if_pos hok])
    obtain ⟨ht0, hw0⟩ := HEND.out 2 HCE2.out (by decide)
    have HT0 := hide ht0
    have HW0 := hide hw0
    rw [h2] at HCK
    generalize (checkT n ls).1 = r0 at *
    generalize (checkT n ls).2.1 = r1 at *
    clear ht0 hw0 HEND HTL HWV h2 hok HCE
    simp only [instV] at *
    go_enter Tryd.func36, Tryd.ntmps36
    go_upto_region 1 with fail
    generalize w.alloc (.cells #[.int .i64 n, .slice A ls.length c] 49) = w0 at *
    have x0 := cell_of_row _ _ 0 _ _ (0, 0) HX0.out
    have x1 := cell_of_row _ _ 1 _ _ (0, 0) HX0.out
    simp only [List.getElem?_toArray, List.getElem?_cons_zero, List.getElem?_cons_succ] at x0 x1
    go_wp2_with (go_at_call 35; refine (HCK.out).mono ?_; rintro e w1 ⟨rfl, hb1⟩; have HB1 := hide (HB0.out.trans (hb1.mono HB0.out.size)); clear hb1)
    refine bodyPost_ret (v := .tuple #[.slice none 0 0, .int .i64 0, .int .i64 2]) (by simp [results, Tryd.results36, go_sem]) rfl ?_
    unfold RefTakenP
    exact ⟨none, 0, by rw [HT0.out, HW0.out, HCE2.out]; rfl, by rw [HT0.out]; exact World.ownsRow_nil _ _ _ _, HB1.out⟩
end Go.Proofs.YtffpiaipdeebcaaDoor
