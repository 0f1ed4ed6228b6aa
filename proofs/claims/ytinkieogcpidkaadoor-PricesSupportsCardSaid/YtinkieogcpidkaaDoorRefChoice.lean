/- The walk of the reference of layer 8: Choice: what a choice is worth. -/
import Derived.Test.YtinkieogcpidkaaDoorWorth
import Derived.Test.YtinkieogcpidkaaDoorRef08I
namespace Go.Proofs.YtinkieogcpidkaaDoor
open Go.RowKit

/-! ### Sets one behind the other, and all at once -/
def orL (gs : List Nat) : Nat := gs.foldl (· ||| ·) 0
theorem orL_snoc (gs : List Nat) (g : Nat) : orL (gs ++ [g]) = orL gs ||| g := by simp [orL]
theorem or_lt32 {a b : Nat} (ha : a < 4294967296) (hb : b < 4294967296) : a ||| b < 4294967296 := Nat.or_lt_two_pow (n := 32) ha hb
theorem orL_lt : ∀ (gs : List Nat), (∀ g ∈ gs, g < 4294967296) → orL gs < 4294967296 := by
  have key : ∀ (gs : List Nat) (m : Nat), m < 4294967296 → (∀ g ∈ gs, g < 4294967296) → gs.foldl (· ||| ·) m < 4294967296 := by
    intro gs
    induction gs with
    | nil => exact fun m h _ => h
    | cons g gs ih => exact fun m hm h => ih _ (or_lt32 hm (h g (List.mem_cons_self ..))) (fun x hx => h x (List.mem_cons_of_mem _ hx))
  exact fun gs h => key gs 0 (by omega) h
theorem orL_bit (gs : List Nat) (i : Nat) : (orL gs).testBit i = decide (0 < cntAt gs i) := by
  have key : ∀ (gs : List Nat) (m : Nat), (gs.foldl (· ||| ·) m).testBit i = (m.testBit i || decide (0 < cntAt gs i)) := by
    intro gs
    induction gs with
    | nil => intro m; simp [cntAt]
    | cons g gs ih =>
      intro m
      rw [List.foldl_cons, ih, Nat.testBit_or]
      have : cntAt (g :: gs) i = (if g.testBit i then 1 else 0) + cntAt gs i := by
        unfold cntAt
        by_cases h : g.testBit i <;> simp [h] <;> omega
      rw [this]
      cases h : g.testBit i
      · simp
      · simp
        right
        omega
  have := key gs 0
  simpa [orL] using this
theorem apart_iff (gs : List Nat) : apartB gs = true ↔ ∀ i, i < 32 → cntAt gs i ≤ 1 := by
  unfold apartB
  rw [List.all_eq_true]
  exact ⟨fun h i hi => by simpa using h i (List.mem_range.2 hi), fun h i hi => by simpa using h i (List.mem_range.1 hi)⟩
theorem apart_next {gs : List Nat} {g : Nat} (h : apartB gs = true) (hg : g &&& orL gs = 0) : apartB (gs ++ [g]) = true := by
  rw [apart_iff] at h ⊢
  intro i hi
  rw [cnt_snoc]
  have h1 := h i hi
  split
  · rename_i hb
    have h2 := congrArg (fun n => n.testBit i) hg
    simp only [Nat.testBit_and, hb, Bool.true_and, orL_bit, Nat.zero_testBit, decide_eq_false_iff_not] at h2
    omega
  · omega
theorem cnt_take (gs : List Nat) (k i : Nat) : cntAt (gs.take k) i ≤ cntAt gs i := ((List.take_sublist k gs).filter _).length_le
theorem apart_not {gs : List Nat} {k g : Nat} (hk : gs[k]? = some g) (hg : g &&& orL (gs.take k) ≠ 0) (h32 : ∀ x ∈ gs, x < 4294967296) : apartB gs = false := by
  cases h : apartB gs with
  | false => rfl
  | true =>
    rw [apart_iff] at h
    obtain ⟨i, hi⟩ := Nat.exists_testBit_of_ne_zero hg
    rw [Nat.testBit_and, Bool.and_eq_true, orL_bit, decide_eq_true_eq] at hi
    have hi32 : i < 32 := by
      apply Nat.lt_of_not_le
      intro hle
      have := Nat.testBit_lt_two_pow (x := g) (i := i) (Nat.lt_of_lt_of_le (h32 g (List.mem_of_getElem? hk)) (Nat.pow_le_pow_right (n := 2) (by omega) hle))
      rw [this] at hi
      exact absurd hi.1 (by decide)
    have h1 := h i hi32
    have h2 := cnt_take gs (k + 1) i
    rw [List.take_add_one, hk, Option.toList_some, cnt_snoc, if_pos hi.1] at h2
    omega
theorem apart_take {gs : List Nat} (h : apartB gs = true) (k : Nat) : apartB (gs.take k) = true := by
  rw [apart_iff] at h ⊢
  exact fun i hi => Nat.le_trans (cnt_take gs k i) (h i hi)
theorem out_at {ls : List (List Offer)} {zs : List Int} {k : Nat} {l : List Offer} {z : Int} (hl : ls[k]? = some l) (hz : zs[k]? = some z) : (outL ls zs)[k]? = some (pickO l z) := by
  unfold outL
  rw [List.getElem?_zipWith, hl, hz]
theorem out_small {ls : List (List Offer)} (hg : GoodB ls) (zs : List Int) : ∀ g ∈ (outL ls zs).map Prod.fst, g < 4294967296 := by
  intro g hgm
  obtain ⟨o, ho, rfl⟩ := List.mem_map.1 hgm
  obtain ⟨i, hi⟩ := List.getElem?_of_mem ho
  unfold outL at hi
  rw [List.getElem?_zipWith] at hi
  cases h1 : ls[i]? with
  | none => rw [h1] at hi; simp at hi
  | some l =>
    cases h2 : zs[i]? with
    | none => rw [h1, h2] at hi; simp at hi
    | some z =>
      rw [h1, h2] at hi
      injection hi with hi
      rw [← hi]
      unfold pickO
      split
      · cases h3 : l[z.toNat]? with
        | none => simp
        | some o' => simp; exact (hg l (List.mem_of_getElem? h1) o' (List.mem_of_getElem? h3)).2.1
      · simp
theorem chE_bad {ls : List (List Offer)} {zs : List Int} {k : Nat} {l : List Offer} {z : Int} (hlen : zs.length = ls.length) (hl : ls[k]? = some l) (hz : zs[k]? = some z) (h : okZ l z = false) : chE ls zs = 170 := by
  unfold chE
  rw [if_neg (by simp [hlen]), if_pos]
  rw [List.all_eq_false]
  exact ⟨okZ l z, List.mem_of_getElem? (i := k) (by rw [List.getElem?_zipWith, hl, hz]), by simpa using h⟩
theorem chE_over {ls : List (List Offer)} {zs : List Int} (h : apartB ((outL ls zs).map Prod.fst) = false) : chE ls zs = 170 := by
  unfold chE
  rw [h]
  split
  · rfl
  · split <;> rfl
theorem chE_ok {ls : List (List Offer)} {zs : List Int} (hlen : zs.length = ls.length) (hall : ∀ (j : Nat) l z, ls[j]? = some l → zs[j]? = some z → okZ l z = true) (h : apartB ((outL ls zs).map Prod.fst) = true) : chE ls zs = 0 := by
  unfold chE
  rw [if_neg (by simp [hlen]), if_neg, if_pos h]
  rw [Bool.not_eq_false, List.all_eq_true]
  intro b hb
  obtain ⟨i, hi⟩ := List.getElem?_of_mem hb
  rw [List.getElem?_zipWith] at hi
  cases h1 : ls[i]? with
  | none => rw [h1] at hi; simp at hi
  | some l =>
    cases h2 : zs[i]? with
    | none => rw [h1, h2] at hi; simp at hi
    | some z =>
      rw [h1, h2] at hi
      injection hi with hi
      rw [← hi]
      exact hall i l z h1 h2

set_option maxRecDepth 100000 in
set_option maxHeartbeats 4000000 in
theorem refchoice_any (n : Int) (A : Option Addr) (c : Nat) (hs : List Hdr) (ls : List (List Offer)) (Z : Option Addr) (zc : Nat) (zs : List Int) (w : World) (h : Buys w w.heap.size A hs ls) (hl : ls.length ≤ 1000000) (hls : BLens ls) (hw : BWide ls)
    (hz : One intV w w.heap.size Z zs) (hzl : zs.length * 8 ≤ 140737488351232) :
    Calls Tryd.prog 23 #[instV n A ls.length c, .slice Z zs.length zc] w (ValPost (.tuple #[.int .i64 (choiceC n ls zs), .int .i64 (choiceE n ls zs)]) w) := by
  have HB : Hid (Below w.heap.size w (w.alloc (.cells #[.int .i64 n, .slice A ls.length c] 24))) := hide ((Below.refl _ _).alloc (Nat.le_refl _) _)
  have HX : Hid ((w.alloc (.cells #[.int .i64 n, .slice A ls.length c] 24)).heap[w.heap.size]? = some (.cells #[.int .i64 n, .slice A ls.length c] 24 (0, 0))) := hide (heap_alloc_new w _)
  have HI := hide (inst08_any n A c hs ls _ (h.up HB.out) hl hls hw)
  by_cases h0 : instE n ls = 0
  · have hI := instE_ok.1 h0
    have hfew : ls.length ≤ 32 := hI.2.1
    have HG := hide (instE_good hw h0)
    have HE : Hid (choiceE n ls zs = chE ls zs) := hide (by unfold choiceE; rw [if_neg (by simpa using h0)])
    have HC : Hid (choiceC n ls zs = if chE ls zs ≠ 0 then 0 else sumC (outL ls zs)) := hide (by unfold choiceC; rw [if_neg (by simpa using h0)]; rfl)
    have HA := hide h
    have HZS := hide hz
    rw [h0] at HI
    clear h hls hw hz hI h0
    generalize choiceE n ls zs = ce at *
    generalize choiceC n ls zs = cc at *
    simp only [instV] at *
    by_cases hlen : zs.length = ls.length
    · have HLEN := hide hlen
      have hne : (((zs.length : Nat) : Int) != (ls.length : Int)) = false := by simp; omega
      have HOL : Hid ((outL ls zs).length = zs.length) := hide (by simp [outL, hlen])
      have HSM := hide (out_small HG.out.good zs)
      have HBD := hide (outL_bd HG.out.good zs)
      clear hlen
      go_enter Tryd.func23, Tryd.ntmps23
      go_wp2_with fail
      refine (HI.out).mono ?_
      rintro e w1 ⟨rfl, hb1⟩
      have HX1 : Hid (w1.heap[w.heap.size]? = some (.cells #[.int .i64 n, .slice A ls.length c] 24 (0, 0))) := hide ((hb1.block _ (lt_of_block HX.out)).trans HX.out)
      have HB1 : Hid (Below w.heap.size w w1) := hide (HB.out.trans (hb1.mono HB.out.size))
      have x1 : w1.cell? ⟨w.heap.size, 1, none⟩ = some (.slice A ls.length c) := cell_of_row w1 w.heap.size 1 _ _ (0, 0) HX1.out
      clear hb1
      go_wp2_with fail
      go_loopw [7, 8, 9] (fun wv tv iv wr => ∃ k : Nat, k ≤ zs.length ∧ iv = .int .i64 k ∧ tv = .int .u32 (orL (((outL ls zs).map Prod.fst).take k) : Nat) ∧ wv = .int .i64 (sumC ((outL ls zs).take k)) ∧ apartB (((outL ls zs).map Prod.fst).take k) = true ∧ (∀ (j : Nat) l z, j < k → ls[j]? = some l → zs[j]? = some z → okZ l z = true) ∧ w1 = wr) (fun _ _ iv _ => zs.length - (intOf iv).toNat)
      case atStart => exact ⟨0, Nat.zero_le _, rfl, rfl, rfl, by simp [apart_iff, cntAt], fun j l z hj => absurd hj (by omega), by trivial⟩
      case round =>
        obtain ⟨k, hk, rfl, rfl, rfl, hap, hall, rfl⟩ := hrel
        have HALL := hide hall
        have HAP := hide hap
        clear hall hap
        by_cases hlt : k < zs.length
        · have hkl : k < ls.length := by rw [← HLEN.out]; exact hlt
          obtain ⟨⟨a1, a2⟩, l, ha, hlx, hro, hca⟩ := HA.out.get hkl
          obtain ⟨bb, bo, rfl, hbB, hat⟩ := HA.out.at_ (by omega)
          obtain ⟨zb, zo, rfl, hzB, hzat⟩ := One.at_ HZS.out (by omega)
          obtain ⟨z, hzx⟩ : ∃ z, zs[k]? = some z := ⟨zs[k], List.getElem?_eq_getElem hlt⟩
          have z1 : w1.cell? ⟨bb, bo + k, none⟩ = some (.slice a1 l.length a2) := (HB1.out.cell (p := ⟨bb, bo + k, none⟩) hbB).trans (hat k _ l ha hlx)
          have z2 : w1.cell? ⟨zb, zo + k, none⟩ = some (.int .i64 z) := (HB1.out.cell (p := ⟨zb, zo + k, none⟩) hzB).trans (hzat k z hzx)
          have HRO := hide (hro.up HB1.out)
          have HLX := hide hlx
          have HZX := hide hzx
          have hki : (k : Int) < (zs.length : Int) := by omega
          have hki2 : (k : Int) < (ls.length : Int) := by omega
          have HOA := hide (out_at hlx hzx)
          clear hat hzat ha hlx hro hca hzx
          by_cases hz1 : okZ l z = true
          · have hzb : -1 ≤ z ∧ z < l.length := by simpa [okZ] using hz1
            have hz2 := hzb.1
            have hz3 := hzb.2
            have HNEXT : Hid (∀ (j : Nat) l z, j < k + 1 → ls[j]? = some l → zs[j]? = some z → okZ l z = true) := hide (fun j l' z' hj h1 h2 => by
              rcases Nat.lt_or_ge j k with h | h
              · exact HALL.out j l' z' h h1 h2
              · obtain rfl : j = k := by omega
                have e1 := HLX.out
                have e2 := HZX.out
                rw [h1] at e1
                rw [h2] at e2
                injection e1 with e1
                injection e2 with e2
                rw [e1, e2]
                exact hz1)
            have HTG : Hid (((outL ls zs).map Prod.fst).take (k + 1) = ((outL ls zs).map Prod.fst).take k ++ [(pickO l z).1]) := hide (by rw [List.take_add_one, List.getElem?_map, HOA.out]; rfl)
            have HTS : Hid (sumC ((outL ls zs).take (k + 1)) = sumC ((outL ls zs).take k) + (pickO l z).2) := hide (by rw [List.take_add_one, HOA.out]; exact sumC_snoc _ _)
            clear hzb
            by_cases hneg : z < 0
            · obtain rfl : z = -1 := by omega
              have hp : pickO l (-1) = (0, 0) := rfl
              rw [hp] at HTG HTS
              have HAN : Hid (apartB (((outL ls zs).map Prod.fst).take (k + 1)) = true) := hide (by rw [HTG.out]; exact apart_next HAP.out (Nat.zero_and _))
              clear hp hneg hz1 hz2 hz3
              go_wp2_with fail
              go_roundw
              case rel => exact ⟨k + 1, by omega, by go_num, by rw [HTG.out, orL_snoc, Nat.or_zero], by rw [HTS.out, Int.add_zero], HAN.out, HNEXT.out, by trivial⟩
              case measure => simp [intOf]; omega
            · obtain ⟨q, rfl⟩ : ∃ q : Nat, z = q := ⟨z.toNat, by omega⟩
              have hql : q < l.length := by omega
              obtain ⟨b1, o1, hA1, hbl1, hat1⟩ := Offs.at_ HRO.out (by omega)
              have ha1 : a1 = some ⟨b1, o1, none⟩ := hA1
              subst ha1
              obtain ⟨d0, d1⟩ := hat1 q l[q] (List.getElem?_eq_getElem hql)
              have hpk : pickO l (q : Int) = l[q] := by simp [pickO, hql]
              rw [hpk] at HTG HTS HOA
              have hsb := sumC_bd ((outL ls zs).take k) (fun o ho => HBD.out o (List.mem_of_mem_take ho))
              have htl : ((outL ls zs).take k).length ≤ 32 := by rw [List.length_take, HOL.out, HLEN.out]; omega
              have hxb := HBD.out l[q] (List.mem_of_getElem? HOA.out)
              have hxs := HSM.out l[q].1 (List.mem_map.2 ⟨_, List.mem_of_getElem? HOA.out, rfl⟩)
              have hts := orL_lt (((outL ls zs).map Prod.fst).take k) (fun g hg => HSM.out g (List.mem_of_mem_take hg))
              generalize l[q] = x at *
              obtain ⟨xg, xc⟩ := x
              simp only at d0 d1 hxb hxs HTG HTS
              have hand := u32_and_nat xg _ hxs hts
              have hor := u32_or_nat _ xg hts hxs
              have hw1 : IntKind.i64.wrap (sumC ((outL ls zs).take k) + xc) = sumC ((outL ls zs).take k) + xc := Go.IntWalk.i64_in _ (by omega)
              have hqi : (q : Int) < (l.length : Int) := by omega
              have HKG : Hid (((outL ls zs).map Prod.fst)[k]? = some xg) := hide (by rw [List.getElem?_map, HOA.out]; rfl)
              clear hpk hA1 hbl1 hat1 hsb htl hxb
              by_cases hov : xg &&& orL (((outL ls zs).map Prod.fst).take k) = 0
              · have HAN : Hid (apartB (((outL ls zs).map Prod.fst).take (k + 1)) = true) := hide (by rw [HTG.out]; exact apart_next HAP.out hov)
                rw [hov] at hand
                have HTG2 : Hid (orL (((outL ls zs).map Prod.fst).take (k + 1)) = orL (((outL ls zs).map Prod.fst).take k) ||| xg) := hide (by rw [HTG.out, orL_snoc])
                clear hov hz1
                generalize orL (((outL ls zs).map Prod.fst).take k) = tk at *
                go_wp2_with fail
                go_roundw
                case rel => exact ⟨k + 1, by omega, by go_num, by rw [HTG2.out], by rw [HTS.out], HAN.out, HNEXT.out, by trivial⟩
                case measure => simp [intOf]; omega
              · have HNA : Hid (chE ls zs = 170) := hide (chE_over (apart_not HKG.out hov HSM.out))
                have hv : ∃ v : Nat, v = xg &&& orL (((outL ls zs).map Prod.fst).take k) := ⟨_, rfl⟩
                obtain ⟨v, hv⟩ := hv
                rw [← hv] at hand hov
                have hov' : ((v : Int) != 0) = true := by simp; exact hov
                clear hv hov hz1
                generalize orL (((outL ls zs).map Prod.fst).take k) = tk at *
                go_wp2_with fail
                go_ret2
                exact ⟨by rw [HE.out, HC.out, HNA.out]; rfl, HB1.out⟩
          · have HNA : Hid (chE ls zs = 170) := hide (chE_bad HLEN.out HLX.out HZX.out (by simpa using hz1))
            have hbz : z < -1 ∨ ((l.length : Int) ≤ z ∧ -1 < z) := by
              simp only [okZ, Bool.and_eq_true, decide_eq_true_eq] at hz1
              omega
            have hzn : (z == -1) = false := by rw [beq_eq_false_iff_ne]; omega
            clear hz1
            rcases hbz with hbz | ⟨hbz, hbz2⟩
            all_goals
              go_wp2_with fail
              go_ret2
              exact ⟨by rw [HE.out, HC.out, HNA.out]; rfl, HB1.out⟩
        · obtain rfl : k = zs.length := by omega
          have HCE : Hid (chE ls zs = 0) := hide (chE_ok HLEN.out (fun j l z h1 h2 => HALL.out j l z (List.getElem?_eq_some_iff.1 h2).1 h1 h2) (by
            have := HAP.out
            rw [List.take_of_length_le (by rw [List.length_map, HOL.out]; exact Nat.le_refl _)] at this
            exact this))
          have HSU : Hid (sumC ((outL ls zs).take zs.length) = sumC (outL ls zs)) := hide (by rw [List.take_of_length_le (by rw [HOL.out]; exact Nat.le_refl _)])
          go_wp2_with fail
          go_ret2
          exact ⟨by rw [HE.out, HC.out, HCE.out, HSU.out]; rfl, HB1.out⟩
    · have HNA : Hid (chE ls zs = 170) := hide (by unfold chE; rw [if_pos hlen])
      have hne : (((zs.length : Nat) : Int) != (ls.length : Int)) = true := by simp; omega
      clear hlen
      go_enter Tryd.func23, Tryd.ntmps23
      go_wp2_with fail
      refine (HI.out).mono ?_
      rintro e w1 ⟨rfl, hb1⟩
      have HX1 : Hid (w1.heap[w.heap.size]? = some (.cells #[.int .i64 n, .slice A ls.length c] 24 (0, 0))) := hide ((hb1.block _ (lt_of_block HX.out)).trans HX.out)
      have HB1 : Hid (Below w.heap.size w w1) := hide (HB.out.trans (hb1.mono HB.out.size))
      have x1 : w1.cell? ⟨w.heap.size, 1, none⟩ = some (.slice A ls.length c) := cell_of_row w1 w.heap.size 1 _ _ (0, 0) HX1.out
      clear hb1
      go_wp2_with fail
      go_ret2
      exact ⟨by rw [HE.out, HC.out, HNA.out]; rfl, HB1.out⟩
  · have HE : Hid (choiceE n ls zs = instE n ls) := hide (by unfold choiceE; rw [if_pos h0])
    have HC : Hid (choiceC n ls zs = 0) := hide (by unfold choiceC; rw [if_pos h0])
    have h0' : (instE n ls != 0) = true := by simpa using h0
    rw [HE.out, HC.out]
    generalize instE n ls = ie at *
    clear h hls hw hz h0
    simp only [instV] at *
    go_enter Tryd.func23, Tryd.ntmps23
    go_wp2_with fail
    refine (HI.out).mono ?_
    rintro e w1 ⟨rfl, hb1⟩
    have HB1 : Hid (Below w.heap.size w w1) := hide (HB.out.trans (hb1.mono HB.out.size))
    clear hb1
    go_wp2_with fail
    go_ret2
    exact ⟨rfl, HB1.out⟩
end Go.Proofs.YtinkieogcpidkaaDoor
