/- The walk of MoneyShares. -/
import Derived.Test.YtgjeihgkcmheeaaDoorRfS
import Derived.Test.YtgjeihgkcmheeaaDoorWrk
namespace Go.Proofs.YtgjeihgkcmheeaaDoor
open Go.RowKit Go.Shelf

structure ShL (w : World) (g1 c1 g2 c2 g3 c3 n : Nat) (f : Nat → Int) (l : List Int) (W : World) : Prop where
  bel : Below w.heap.size w W
  a : W.ownsRow w.heap.size 2 1 (.slice (some ⟨g1, 0, none⟩) n c1) n (intV (rowF f n))
  b : W.ownsRow w.heap.size 2 1 (.slice (some ⟨g2, 0, none⟩) n c2) n (intV l)
  d : W.ownsRow w.heap.size 2 1 (.slice (some ⟨g3, 0, none⟩) n c3) n (intV l)
  n1 : g1 ≠ g2
  n2 : g1 ≠ g3
section
variable {w W W' : World} {g1 c1 g2 c2 g3 c3 n : Nat} {f : Nat → Int} {l : List Int}
theorem ShL.below (h : ShL w g1 c1 g2 c2 g3 c3 n f l W) (hb : Below W.heap.size W W') : ShL w g1 c1 g2 c2 g3 c3 n f l W' :=
  ⟨h.bel.trans (hb.mono h.bel.size), own_below h.a hb (Nat.le_refl _), own_below h.b hb (Nat.le_refl _), own_below h.d hb (Nat.le_refl _), h.n1, h.n2⟩
theorem ShL.set (h : ShL w g1 c1 g2 c2 g3 c3 n f l W) (i : Nat) (u : Int) : ShL w g1 c1 g2 c2 g3 c3 n (updF f i u) l (W.setCell ⟨g1, i, none⟩ (.int .i64 u)) := by
  refine ⟨h.bel.setCell (h.a.lt g1 rfl).1 _, ?_, ownsRow_setCell_other h.b (fun e => h.n1 (Option.some.inj e).symm) _, ownsRow_setCell_other h.d (fun e => h.n2 (Option.some.inj e).symm) _, h.n1, h.n2⟩
  rw [← intV_set]
  exact (h.a.stored i _).1
theorem ShL.grown (h : ShL w g1 c1 g2 c2 g3 c3 n f l W) (hg : W.grownBy W' (some g1)) : Below w.heap.size w W' ∧ W'.ownsRow w.heap.size 2 1 (.slice (some ⟨g2, 0, none⟩) n c2) n (intV l) ∧ W'.ownsRow w.heap.size 2 1 (.slice (some ⟨g3, 0, none⟩) n c3) n (intV l) :=
  ⟨h.bel.grown hg h.bel.size (fun k e => by injection e with e; subst e; exact (h.a.lt _ rfl).1), h.b.kept hg (.inr (fun e => h.n1 (Option.some.inj e).symm)), h.d.kept hg (.inr (fun e => h.n2 (Option.some.inj e).symm))⟩
end
theorem reads_nil (w : World) : Reads w w.heap.size 1 none 0 (intV []) := Reads.none_ _ _ _
set_option maxRecDepth 100000 in
set_option maxHeartbeats 8000000 in
theorem shares_any {w : World} {A : Option Addr} {n cc : Nat} {c : Int} {ws : List Int} (h : Reads w w.heap.size 1 A n (intV ws)) (hL : LdW w) : Calls Tryd.prog 3 #[.int .i64 c, .slice A n cc] w (BelP (.bool true) w) := by
  have HWK := hide (fun W hW => works_any W hW)
  have HLD := hide hL
  have HR := hide h
  have HLN := hide h.len
  have hn0 : (0 : Int) ≤ (n : Int) := by omega
  by_cases hn : (n : Int) > 2000
  · clear h hL
    go_enter Tryd.func3, Tryd.ntmps3
    go_wp2_with fail
    refine (HWK.out _ HLD.out).mono ?_
    rintro _ w1 ⟨rfl, hb⟩
    have HB := hide hb
    clear hb
    go_wp2_with fail
    go_ret
    exact ⟨rfl, HB.out⟩
  have hn9 : (n : Int) ≤ 2000 := by omega
  have HLE := hide (lent_any (c := cc) h (by omega))
  have HNN := hide (show n ≤ 2000 by omega)
  have HNM := hide (fun x W => num_any x W)
  clear h hL hn
  go_enter Tryd.func3, Tryd.ntmps3
  go_wp2_with fail
  refine (HLE.out).mono ?_
  rintro _ w1 ⟨g, cg, rfl, hlw, hb1⟩
  have HB1 := hide hb1
  have HLW := hide hlw
  have HSH := hide (share_any (c := c) (cc := cg) hlw.reads (by have := HNN.out; omega))
  clear hb1 hlw
  go_wp2_with fail
  refine (HSH.out).mono ?_
  rintro _ w2 ⟨hb2, hor2⟩
  have HB2 := hide hb2
  have HLW2 := hide (HLW.out.below hb2)
  have HSH2 := hide (share_any (c := c) (cc := cg) HLW2.out.reads (by have := HNN.out; omega))
  clear hb2
  cases hok : shareOK c ws with
  | false =>
    rcases hor2 with ⟨_, rfl⟩ | ⟨h, _⟩
    case inr => rw [hok] at h; cases h
    go_wp2_with fail
    refine (HSH2.out).mono ?_
    rintro _ w3 ⟨hb3, hor3⟩
    rcases hor3 with ⟨_, rfl⟩ | ⟨h, _⟩
    case inr => rw [hok] at h; cases h
    have HB3 := hide (HB1.out.trans ((HB2.out.mono HB1.out.size).trans (hb3.mono (Nat.le_trans HB1.out.size HB2.out.size))))
    have HLW3 := hide (HLW2.out.below hb3)
    have HR3 := hide ((HR.out.below HB3.out).more HB3.out.size)
    have HDS := hide (docShare_any (c := c) (cc := cc) HR3.out (by have := HNN.out; omega))
    clear hb3
    go_wp2_with fail
    refine (HDS.out).mono ?_
    rintro _ w4 ⟨hb4, hor4⟩
    rcases hor4 with ⟨_, rfl⟩ | ⟨h, _⟩
    case inr => rw [hok] at h; cases h
    have HB4 := hide (HB3.out.trans (hb4.mono HB3.out.size))
    have HLW4 := hide (HLW3.out.below hb4)
    have HSM := hide (fun W => same_any (c1 := 0) (c2 := 0) (reads_nil W) (reads_nil W) (by omega))
    have hdd : decide (([] : List Int) = []) = true := by simp
    rw [hdd] at HSM
    clear hb4 hok hdd
    go_wp2_with fail
    refine (HNM.out _ _).mono ?_
    rintro _ _ ⟨rfl, rfl⟩
    rename World => w4
    go_wp2_with fail
    refine (HSM.out _).mono ?_
    rintro _ w5 ⟨rfl, hb5⟩
    have HB5 := hide (HB4.out.trans (hb5.mono HB4.out.size))
    have HLW5 := hide (HLW4.out.below hb5)
    have HKP := hide (kept_any (c2 := cc) HLW5.out ((HR.out.below HB5.out).more HB5.out.size) (by have := HNN.out; omega))
    clear hb5
    go_wp2_with fail
    refine (HKP.out).mono ?_
    rintro _ w6 ⟨rfl, hb6⟩
    have HB6 := hide (HB5.out.trans (hb6.mono HB5.out.size))
    clear hb6
    go_wp2_with fail
    have HN0 : Hid ((w6.ownsRow w.heap.size 2 1 (.slice none 0 0) 0 []) ∧ w.heap.size ≤ w6.heap.size) := hide ⟨World.ownsRow_nil _ _ _ _, HB6.out.size⟩
    go_loopw [12] (fun iv W => iv = .int .i64 0 ∧ W = w6) (fun _ _ => 0)
    case atStart => exact ⟨rfl, rfl⟩
    case round =>
      rename World => wi
      obtain ⟨rfl, rfl⟩ := hrel
      rename World => w6
      have HN1 := hide (own_new w6 [.int .i64 (-9)] 2 (by simp [maxLen]))
      have HBN : Hid (Below w6.heap.size w6 (w6.alloc (.cells #[.int .i64 (-9)] 2))) := hide ((Below.refl _ _).alloc (Nat.le_refl _) _)
      have HNA := hide (own_below HN0.out.1 HBN.out (Nat.le_refl _))
      have HBA := hide (HB6.out.trans (HBN.out.mono HN0.out.2))
      have G1 := hide (intV_one [-9])
      have G2 : Hid (0 + 1 ≤ maxLen) := hide (by simp [maxLen])
      have G4 : Hid (w.heap.size ≤ (w6.alloc (.cells #[.int .i64 (-9)] 2)).heap.size) := hide HBA.out.size
      clear HB1 HB2 HB3 HB4 HB5 HSH HSH2 HDS HKP HLE
      have HB7 := hide (fun (o : Obj) => bel_drewN (HBA.out.alloc G4.out o) 1)
      go_wp2_with fail
      refine (HSM.out _).mono ?_
      rintro _ w8 ⟨rfl, hb8⟩
      have HB8 := hide ((HB7.out _).trans (hb8.mono (HB7.out _).size))
      clear hb8
      go_wp2_with fail
      refine (HWK.out _ (HLD.out.below HB8.out)).mono ?_
      rintro _ w9 ⟨rfl, hb9⟩
      have HB9 := hide (HB8.out.trans (hb9.mono HB8.out.size))
      clear hb9
      go_wp2_with fail
      go_ret
      exact ⟨rfl, HB9.out⟩
  | true =>
    rw [HLN.out] at hor2
    obtain ⟨g1, c1, rfl, ho1⟩ : ∃ g1 c1, _ = Ending.returned (.tuple #[.slice (some ⟨g1, 0, none⟩) n c1, .int .i64 0]) ∧ w2.ownsRow w1.heap.size 2 1 (.slice (some ⟨g1, 0, none⟩) n c1) n (intV (shareL c ws)) := by
      rcases hor2 with ⟨h, _⟩ | ⟨_, g1, e, ho1⟩
      case inl => rw [hok] at h; cases h
      exact ⟨g1, n, e, ho1⟩
    go_wp2_with fail
    refine (HSH2.out).mono ?_
    rintro _ w3 ⟨hb3, hor3⟩
    rw [HLN.out] at hor3
    rcases hor3 with ⟨h, _⟩ | ⟨_, g2, rfl, ho2⟩
    case inl => rw [hok] at h; cases h
    have HB23 := hide (HB1.out.trans (HB2.out.mono HB1.out.size))
    have HB3 := hide (HB23.out.trans (hb3.mono HB23.out.size))
    have HLW3 := hide (HLW2.out.below hb3)
    have HR3 := hide ((HR.out.below HB3.out).more HB3.out.size)
    have HDS := hide (docShare_any (c := c) (cc := cc) HR3.out (by have := HNN.out; omega))
    have HO1 := hide (own_below ho1 hb3 (Nat.le_refl _))
    have HO2 := hide ho2
    have HG12 : Hid (g1 ≠ g2) := hide (by
      have h1 := (ho1.lt g1 rfl).1
      have h2 := (ho1.lt g1 rfl).2
      have h3 := (ho2.lt g2 rfl).1
      have h4 := (ho2.lt g2 rfl).2
      omega)
    clear hb3 ho1 ho2
    go_wp2_with fail
    refine (HDS.out).mono ?_
    rintro _ w4 ⟨hb4, hor4⟩
    rw [HLN.out] at hor4
    rcases hor4 with ⟨h, _⟩ | ⟨_, g3, cd, rfl, ho3⟩
    case inl => rw [hok] at h; cases h
    have HB4 := hide (HB3.out.trans (hb4.mono HB3.out.size))
    have HLW4 := hide (HLW3.out.below hb4)
    have HSL : Hid (∃ f : Nat → Int, shareL c ws = rowF f n) := hide (by unfold shareL; rw [HLN.out]; exact ⟨_, rfl⟩)
    have HLL : Hid ((shareL c ws).length = n) := hide (by obtain ⟨f, hf⟩ := HSL.out; rw [hf]; exact rowF_len _ _)
    have HSW0 : Hid (∃ f : Nat → Int, ShL w g1 c1 g2 n g3 cd n f (shareL c ws) w4) := hide (by
      obtain ⟨f, hf⟩ := HSL.out
      have a1 := own_below HO1.out hb4 (Nat.le_refl _)
      have a2 := own_below HO2.out hb4 (Nat.le_refl _)
      refine ⟨f, HB4.out, ?_, ?_, ?_, HG12.out, ?_⟩
      · rw [← hf]; exact own_base a1 HB1.out.size
      · exact own_base a2 HB23.out.size
      · exact own_base ho3 HB3.out.size
      · have h1 := (HO1.out.lt g1 rfl).1
        have h2 := (HO1.out.lt g1 rfl).2
        have h3 := (ho3.lt g3 rfl).1
        have h4 := (ho3.lt g3 rfl).2
        omega)
    obtain ⟨f0, hf0⟩ := HSW0.out
    have HSW := hide hf0
    have HRA : Hid (Reads w4 w4.heap.size 1 (some ⟨g1, 0, none⟩) n (intV (shareL c ws))) := hide (Reads.of_own (own_base (own_below HO1.out hb4 (Nat.le_refl _)) HB1.out.size))
    have HSM := hide (same_any (c1 := c1) (c2 := cd) HRA.out (Reads.of_own hf0.d) (by have := HNN.out; omega))
    have hdd : decide (shareL c ws = shareL c ws) = true := by simp
    rw [hdd] at HSM
    clear hb4 hok hdd hf0 ho3 HSW0 HRA HO1 HO2 HSL
    generalize shareL c ws = sl at *
    go_wp2_with fail
    refine (HNM.out _ _).mono ?_
    rintro _ _ ⟨rfl, rfl⟩
    rename World => w4
    go_wp2_with fail
    refine (HSM.out).mono ?_
    rintro _ w5 ⟨rfl, hb5⟩
    have HB5 := hide (HB4.out.trans (hb5.mono HB4.out.size))
    have HLW5 := hide (HLW4.out.below hb5)
    have HSW5 := hide (HSW.out.below hb5)
    have HKP := hide (kept_any (c2 := cc) HLW5.out ((HR.out.below HB5.out).more HB5.out.size) (by have := HNN.out; omega))
    clear hb5
    go_wp2_with fail
    refine (HKP.out).mono ?_
    rintro _ w6 ⟨rfl, hb6⟩
    have HSW6 := hide (HSW5.out.below hb6)
    clear hb6
    clear HB1 HB2 HB3 HB4 HB5 HB23 HSH HSH2 HDS HKP HLE HSM HSW HSW5 HLW HLW2 HLW3 HLW4 HLW5 HR3
    go_wp2_with fail
    go_loopw [12] (fun iv W => ∃ (k : Nat) (f : Nat → Int), k ≤ n ∧ iv = .int .i64 k ∧ ShL w g1 c1 g2 n g3 cd n f sl W) (fun iv _ => n - (intOf iv).toNat)
    case atStart => exact ⟨0, f0, Nat.zero_le _, rfl, HSW6.out⟩
    case round =>
      rename World => wi
      obtain ⟨k, f, hk, rfl, hs⟩ := hrel
      have HS := hide hs
      clear hs HSW6
      have hk0 : (0 : Int) ≤ (k : Int) := by omega
      have hk9 : (k : Int) ≤ 2000 := by omega
      by_cases hlt : k < n
      · have hki : (k : Int) < (n : Int) := by omega
        obtain ⟨hcell, hfrz⟩ := own_int HS.out.a hlt
        have HS2 := hide (HS.out.set k (-9))
        have HLT := hide hlt
        clear hlt
        go_wp2_with fail
        go_roundw
        case rel => exact ⟨k + 1, _, HLT.out, by go_num, HS2.out⟩
        case measure => have := HLT.out; simp [intOf]; omega
      · have hki : ¬ (k : Int) < (n : Int) := by omega
        have HN1 := hide (own_new wi [.int .i64 (-9)] 2 (by simp [maxLen]))
        have HBN : Hid (Below wi.heap.size wi (wi.alloc (.cells #[.int .i64 (-9)] 2))) := hide ((Below.refl _ _).alloc (Nat.le_refl _) _)
        have HSN := hide (HS.out.below HBN.out)
        have G1 := hide (intV_one [-9])
        have G2 : Hid (n + 1 ≤ maxLen) := hide (by have := HNN.out; unfold maxLen; omega)
        have G3 : Hid ((n + 1) * 8 ≤ 140737488355328) := hide (by have := HNN.out; omega)
        have G4 : Hid (w.heap.size ≤ (wi.alloc (.cells #[.int .i64 (-9)] 2)).heap.size) := hide HSN.out.bel.size
        have HSA := hide HSN.out.a
        obtain ⟨A1, hA1⟩ : ∃ A1 : Option Addr, some (⟨g1, 0, none⟩ : Addr) = A1 := ⟨_, rfl⟩
        rw [hA1] at HSA
        rw [hA1]
        have HA1 := hide hA1
        clear hA1
        go_upto_region 14 with (at_builtin; refine wpList_append_any rfl (.tmp 62) (.tmp 63) 22 rfl w.heap.size 2 (.int .i64 0) 1 8 info2 Tryd.underlying22 rfl (by decide) _ n (intV (rowF f n)) rfl HSA.out _ (some ⟨wi.heap.size, 0, none⟩) 1 1 (intV [-9]) rfl (Reads.of_own HN1.out) G1.out G2.out G3.out G4.out ?_; intro v1' w7 ho1 hg1 hat1; have H7 := hide (HSN.out.grown (by rw [← HA1.out] at hg1; exact hg1)); obtain ⟨A1', c1', rfl, _⟩ := own_sh ho1; clear ho1 hg1 hat1)
        have HSM := hide (same_any (c1 := n) (c2 := cd) (Reads.of_own H7.out.2.1) (Reads.of_own H7.out.2.2) (by have := HNN.out; omega))
        have hdd : decide (sl = sl) = true := by simp
        rw [hdd] at HSM
        clear hdd
        go_wp2_with fail
        refine (HSM.out).mono ?_
        rintro _ w8 ⟨rfl, hb8⟩
        have HB8 := hide (H7.out.1.trans (hb8.mono H7.out.1.size))
        clear hb8
        go_wp2_with fail
        refine (HWK.out _ (HLD.out.below HB8.out)).mono ?_
        rintro _ w9 ⟨rfl, hb9⟩
        have HB9 := hide (HB8.out.trans (hb9.mono HB8.out.size))
        clear hb9
        go_wp2_with fail
        go_ret
        exact ⟨rfl, HB9.out⟩
end Go.Proofs.YtgjeihgkcmheeaaDoor
