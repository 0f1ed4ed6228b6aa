/- The walk of MoneySums. -/
import Derived.Test.YtgjeihgkcmheeaaDoorWrk
namespace Go.Proofs.YtgjeihgkcmheeaaDoor
open Go.RowKit Go.Shelf

theorem are_q (c : Int) (w : World) : Calls Tryd.prog 26 #[.int .i64 c] w fun e w' => e = .returned (.bool (isC c)) ∧ w' = w := (are_any c w).mono (fun _ _ ⟨h1, h2⟩ => ⟨h1, h2.symm⟩)
theorem docAre_q (c : Int) (w : World) : Calls Tryd.prog 22 #[.int .i64 c] w fun e w' => e = .returned (.bool (isC c)) ∧ w' = w := (docAre_any c w).mono (fun _ _ ⟨h1, h2⟩ => ⟨h1, h2.symm⟩)
set_option maxRecDepth 100000 in
set_option maxHeartbeats 8000000 in
theorem sums_any {w : World} {A : Option Addr} {n c : Nat} {l : List Int} (h : Reads w w.heap.size 1 A n (intV l)) (hL : LdW w) : Calls Tryd.prog 6 #[.slice A n c] w (BelP (.bool true) w) := by
  have HWK := hide (fun W hW => works_any W hW)
  have HLD := hide hL
  have HR := hide h
  have HLN := hide h.len
  have hn0 : (0 : Int) ≤ (n : Int) := by omega
  by_cases hn : (n : Int) > 2000
  · clear h hL
    go_enter Tryd.func6, Tryd.ntmps6
    go_wp2_with fail
    refine (HWK.out _ HLD.out).mono ?_
    rintro _ w1 ⟨rfl, hb⟩
    have HB := hide hb
    clear hb
    go_wp2_with fail
    go_ret
    exact ⟨rfl, HB.out⟩
  · have hn9 : (n : Int) ≤ 2000 := by omega
    have HLE := hide (lent_any (c := c) h (by omega))
    have hnn : n ≤ 2000 := by omega
    have HNN := hide hnn
    clear h hL hn hnn
    go_enter Tryd.func6, Tryd.ntmps6
    go_wp2_with fail
    refine (HLE.out).mono ?_
    rintro _ w1 ⟨g, cg, rfl, hlw, hb1⟩
    have HB1 := hide hb1
    have HLW := hide hlw
    have HSU := hide (sum_any (c := cg) hlw.reads (by have := HNN.out; omega))
    have HR1 := hide ((HR.out.below hb1).more hb1.size)
    have HSD := hide (docSum_any (c := c) HR1.out (by have := HNN.out; omega))
    obtain ⟨s1, hs1⟩ : ∃ s, s = (sumR l).1 := ⟨_, rfl⟩
    obtain ⟨s2, hs2⟩ : ∃ s, s = (sumR l).2 := ⟨_, rfl⟩
    rw [← hs1, ← hs2] at HSU HSD
    clear hb1 hlw hs1 hs2
    go_wp2_with fail
    refine (HSU.out).mono ?_
    rintro _ _ ⟨rfl, rfl⟩
    go_wp2_with fail
    refine (HSD.out).mono ?_
    rintro _ _ ⟨rfl, rfl⟩
    rename World => w1
    go_wp2_with fail
    go_loopw [8] (fun iv W => ∃ k : Nat, k ≤ n ∧ iv = .int .i64 k ∧ Below w1.heap.size w1 W) (fun iv _ => n - (intOf iv).toNat)
    case atStart => exact ⟨0, Nat.zero_le _, rfl, Below.refl _ _⟩
    case round =>
      rename World => wk
      obtain ⟨k, hk, rfl, hb⟩ := hrel
      have HBK := hide hb
      clear hb
      have hk0 : (0 : Int) ≤ (k : Int) := by omega
      have hk9 : (k : Int) ≤ 2000 := by omega
      by_cases hlt : k < n
      · obtain ⟨x, hx⟩ := get_of (l := l) (k := k) (by have := HLN.out; omega)
        obtain ⟨b, o, rfl, _, hc⟩ := (HR1.out.below HBK.out).int hlt hx
        have hki : (k : Int) < (n : Int) := by omega
        have HLT := hide hlt
        have HAQ := hide (fun W => are_q x W)
        have HDQ := hide (fun W => docAre_q x W)
        generalize isC x = bx at *
        have hbb : (bx != bx) = false := by cases bx <;> rfl
        clear hx hlt
        go_wp2_with fail
        go_quiet (first | (go_at_call 26; exact Calls.quiet_of_same (HAQ.out _)) | (go_at_call 22; exact Calls.quiet_of_same (HDQ.out _)))
        go_wp2_with fail
        go_roundw
        case rel => exact ⟨k + 1, HLT.out, by go_num, bel_drewN HBK.out _⟩
        case measure => have := HLT.out; simp [intOf]; omega
      · have hki : ¬ (k : Int) < (n : Int) := by omega
        have HNM := hide (fun W => num_any s2 W)
        have HKP := hide (kept_any (c2 := c) (HLW.out.below HBK.out) (HR1.out.below HBK.out |>.more HBK.out.size) (by have := HNN.out; omega))
        have HBW := hide (HB1.out.trans (HBK.out.mono HB1.out.size))
        go_wp2_with fail
        refine (HNM.out _).mono ?_
        rintro _ _ ⟨rfl, rfl⟩
        go_wp2_with fail
        refine (HKP.out).mono ?_
        rintro _ w2 ⟨rfl, hb2⟩
        have HB2 := hide (HBW.out.trans (hb2.mono HBW.out.size))
        clear hb2
        go_wp2_with fail
        refine (HWK.out _ (HLD.out.below HB2.out)).mono ?_
        rintro _ w3 ⟨rfl, hb3⟩
        have HB3 := hide (HB2.out.trans (hb3.mono HB2.out.size))
        clear hb3
        go_wp2_with fail
        go_ret
        exact ⟨rfl, HB3.out⟩
end Go.Proofs.YtgjeihgkcmheeaaDoor
