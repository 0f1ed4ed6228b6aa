/- The walks of goods.Worth, offers.Choice: what a choice is worth. -/
import Derived.Test.YtinkieogcpidkaaDoorChosen
namespace Go.Proofs.YtinkieogcpidkaaDoor
open Go.RowKit

def sumC (l : List Offer) : Int := l.foldl (fun s o => s + o.2) 0
theorem sumC_snoc (l : List Offer) (o : Offer) : sumC (l ++ [o]) = sumC l + o.2 := by simp [sumC]
theorem sumC_bd : ∀ (l : List Offer), (∀ o ∈ l, 0 ≤ o.2 ∧ o.2 ≤ 1099511627776) → 0 ≤ sumC l ∧ sumC l ≤ l.length * 1099511627776 := by
  have key : ∀ (l : List Offer) (m : Int), (∀ o ∈ l, 0 ≤ o.2 ∧ o.2 ≤ 1099511627776) → m ≤ l.foldl (fun s o => s + o.2) m ∧ l.foldl (fun s o => s + o.2) m ≤ m + l.length * 1099511627776 := by
    intro l
    induction l with
    | nil => exact fun m _ => ⟨Int.le_refl _, by simp⟩
    | cons o l ih =>
      intro m h
      have h1 := ih (m + o.2) (fun p hp => h p (List.mem_cons_of_mem _ hp))
      have h2 := h o (List.mem_cons_self ..)
      simp only [List.foldl_cons, List.length_cons]
      omega
  intro l h
  have := key l 0 h
  unfold sumC
  omega
def worthC (ls : List (List Offer)) (zs : List Int) : Int := if chE ls zs ≠ 0 then 0 else sumC (outL ls zs)
theorem outL_bd {ls : List (List Offer)} (hg : GoodB ls) (zs : List Int) : ∀ o ∈ outL ls zs, 0 ≤ o.2 ∧ o.2 ≤ 1099511627776 := by
  intro o ho
  obtain ⟨i, hi⟩ := List.getElem?_of_mem ho
  unfold outL at hi
  rw [List.getElem?_zipWith] at hi
  cases h1 : ls[i]? with
  | none => rw [h1] at hi; simp at hi
  | some l =>
    cases h2 : zs[i]? with
    | none => rw [h1, h2] at hi; simp at hi
    | some z =>
      rw [h1, h2] at hi
      injection hi with hi
      rw [← hi]
      unfold pickO
      split
      · cases h3 : l[z.toNat]? with
        | none => simp
        | some o' =>
          have := hg l (List.mem_of_getElem? h1) o' (List.mem_of_getElem? h3)
          simp only [Option.getD_some]
          omega
      · simp
theorem chE_cases (ls : List (List Offer)) (zs : List Int) : chE ls zs = 0 ∨ chE ls zs = 170 := by
  unfold chE
  split
  · exact .inr rfl
  · split
    · exact .inr rfl
    · split
      · exact .inl rfl
      · exact .inr rfl

set_option maxRecDepth 100000 in
set_option maxHeartbeats 2000000 in
theorem worth_any (n : Int) (A : Option Addr) (c : Nat) (hs : List Hdr) (ls : List (List Offer)) (Z : Option Addr) (zc : Nat) (zs : List Int) (w : World) (h : Buys w w.heap.size A hs ls) (hok : instE n ls = 0) (hw : BWide ls)
    (hz : One intV w w.heap.size Z zs) (hzl : zs.length * 8 ≤ 140737488351232) (hT : TabW w) :
    Calls Tryd.prog 49 #[instV n A ls.length c, .slice Z zs.length zc] w (ValPost (.tuple #[.int .i64 (worthC ls zs), .int .i64 (chE ls zs)]) w) := by
  have HB : Hid (Below w.heap.size w (w.alloc (.cells #[.int .i64 n, .slice A ls.length c] 24))) := hide ((Below.refl _ _).alloc (Nat.le_refl _) _)
  have HCH := hide (chosen_any n A c hs ls Z zc zs _ (h.up HB.out) hok hw (hz.up HB.out) hzl (hT.below HB.out))
  have hfew : ls.length ≤ 32 := (instE_ok.1 hok).2.1
  have HOB := hide (outL_bd (instE_good hw hok).good zs)
  have HWC : Hid (worthC ls zs = if chE ls zs ≠ 0 then 0 else sumC (outL ls zs)) := hide rfl
  unfold ChosenPost at HCH
  clear h hok hw hz hT
  generalize hce : chE ls zs = ce at *
  generalize worthC ls zs = wc at *
  clear hce
  generalize outL ls zs = out at *
  simp only [instV] at *
  go_enter Tryd.func49, Tryd.ntmps49
  go_wp2_with fail
  refine (HCH.out).mono ?_
  rintro e w1 (⟨hne, rfl, hb1⟩ | ⟨h0, A1, c1, rfl, hoff, hlen, hb1⟩)
  · have HB1 : Hid (Below w.heap.size w w1) := hide (HB.out.trans (hb1.mono HB.out.size))
    have hwc : wc = 0 := by rw [HWC.out, if_pos hne]
    subst hwc
    clear hb1 HCH
    go_wp2_with fail
    go_loopw [8, 19] (fun sv iv wr => sv = .int .i64 0 ∧ iv = .int .i64 0 ∧ w1 = wr) (fun _ _ _ => 0)
    case atStart => exact ⟨rfl, rfl, by trivial⟩
    case round =>
      obtain ⟨rfl, rfl, rfl⟩ := hrel
      go_wp2_with fail
      go_ret2
      exact ⟨rfl, HB1.out⟩
  · subst h0
    have hwc : wc = sumC out := by rw [HWC.out, if_neg (by simp)]
    subst hwc
    have HB1 : Hid (Below w.heap.size w w1) := hide (HB.out.trans (hb1.mono HB.out.size))
    have HOF := hide hoff
    rw [← hlen]
    have hle : out.length ≤ 32 := by omega
    clear hb1 hoff HCH
    go_wp2_with fail
    go_loopw [8, 19] (fun sv iv wr => ∃ k : Nat, k ≤ out.length ∧ iv = .int .i64 k ∧ sv = .int .i64 (sumC (out.take k)) ∧ Below w1.heap.size w1 wr) (fun _ iv _ => out.length - (intOf iv).toNat)
    case atStart => exact ⟨0, Nat.zero_le _, rfl, rfl, Below.refl _ _⟩
    case round =>
      obtain ⟨k, hk, rfl, rfl, hb⟩ := hrel
      have HBR := hide hb
      clear hb
      by_cases hlt : k < out.length
      · obtain ⟨b1, o1, rfl, hbB, hat⟩ := Offs.at_ HOF.out (by omega)
        obtain ⟨e0, e1⟩ := hat k out[k] (List.getElem?_eq_getElem hlt)
        have d0 := (HBR.out.cell (p := ⟨b1, o1 + k * 2, none⟩) hbB).trans e0
        have d1 := (HBR.out.cell (p := ⟨b1, o1 + k * 2 + 1, none⟩) hbB).trans e1
        have HSN : Hid (sumC (out.take (k + 1)) = sumC (out.take k) + out[k].2) := hide (by rw [List.take_add_one, List.getElem?_eq_getElem hlt]; exact sumC_snoc _ _)
        have hxb := HOB.out out[k] (List.getElem_mem hlt)
        have hsb := sumC_bd (out.take k) (fun o ho => HOB.out o (List.mem_of_mem_take ho))
        have htl : (out.take k).length ≤ 32 := by rw [List.length_take]; omega
        generalize out[k] = x at *
        obtain ⟨xg, xc⟩ := x
        simp only at d0 d1 hxb
        have hw1 : IntKind.i64.wrap (sumC (out.take k) + xc) = sumC (out.take k) + xc := Go.IntWalk.i64_in _ (by omega)
        have hki : (k : Int) < (out.length : Int) := by omega
        have HBA : Hid (∀ o, Below w1.heap.size w1 (wr.alloc o)) := hide (fun o => HBR.out.alloc HBR.out.size o)
        clear e0 e1 hat hxb hsb htl
        go_wp2_with fail
        go_roundw
        case rel => exact ⟨k + 1, by omega, by go_num, by rw [HSN.out], HBA.out _⟩
        case measure => simp [intOf]; omega
      · obtain rfl : k = out.length := by omega
        rw [List.take_of_length_le (Nat.le_refl _)]
        go_wp2_with fail
        go_ret2
        exact ⟨rfl, HB1.out.trans (HBR.out.mono HB1.out.size)⟩

def choiceE (n : Int) (ls : List (List Offer)) (zs : List Int) : Int := if instE n ls ≠ 0 then instE n ls else chE ls zs
def choiceC (n : Int) (ls : List (List Offer)) (zs : List Int) : Int := if instE n ls ≠ 0 then 0 else worthC ls zs
set_option maxRecDepth 100000 in
set_option maxHeartbeats 2000000 in
theorem choice_any (n : Int) (A : Option Addr) (c : Nat) (hs : List Hdr) (ls : List (List Offer)) (Z : Option Addr) (zc : Nat) (zs : List Int) (w : World) (h : Buys w w.heap.size A hs ls) (hl : ls.length ≤ 1000000) (hls : BLens ls) (hw : BWide ls)
    (hz : One intV w w.heap.size Z zs) (hzl : zs.length * 8 ≤ 140737488351232) (hT : TabW w) :
    Calls Tryd.prog 40 #[instV n A ls.length c, .slice Z zs.length zc] w (ValPost (.tuple #[.int .i64 (choiceC n ls zs), .int .i64 (choiceE n ls zs)]) w) := by
  have HB : Hid (Below w.heap.size w (w.alloc (.cells #[.int .i64 n, .slice A ls.length c] 24))) := hide ((Below.refl _ _).alloc (Nat.le_refl _) _)
  have HX : Hid ((w.alloc (.cells #[.int .i64 n, .slice A ls.length c] 24)).heap[w.heap.size]? = some (.cells #[.int .i64 n, .slice A ls.length c] 24 (0, 0))) := hide (heap_alloc_new w _)
  have HI := hide (inst_any n A c hs ls _ (h.up HB.out) hl hls hw)
  have HWO : Hid (instE n ls = 0 → ∀ W, Below w.heap.size w W → Calls Tryd.prog 49 #[instV n A ls.length c, .slice Z zs.length zc] W (ValPost (.tuple #[.int .i64 (worthC ls zs), .int .i64 (chE ls zs)]) W)) := hide (fun h0 W hW => worth_any n A c hs ls Z zc zs W (h.up hW) h0 hw (hz.up hW) hzl (hT.below hW))
  have HE : Hid (choiceE n ls zs = if instE n ls ≠ 0 then instE n ls else chE ls zs) := hide rfl
  have HC : Hid (choiceC n ls zs = if instE n ls ≠ 0 then 0 else worthC ls zs) := hide rfl
  clear h hls hw hz hT
  generalize choiceE n ls zs = ce at *
  generalize choiceC n ls zs = cc at *
  generalize worthC ls zs = wc at *
  generalize chE ls zs = he at *
  generalize instE n ls = ie at *
  simp only [instV] at *
  by_cases h0 : ie = 0
  · subst h0
    have e1 : ce = he := by rw [HE.out, if_neg (by simp)]
    have e2 : cc = wc := by rw [HC.out, if_neg (by simp)]
    subst e1 e2
    go_enter Tryd.func40, Tryd.ntmps40
    go_wp2_with fail
    refine (HI.out).mono ?_
    rintro e w1 ⟨rfl, hb1⟩
    have HX1 : Hid (w1.heap[w.heap.size]? = some (.cells #[.int .i64 n, .slice A ls.length c] 24 (0, 0))) := hide ((hb1.block _ (lt_of_block HX.out)).trans HX.out)
    have HB1 : Hid (Below w.heap.size w w1) := hide (HB.out.trans (hb1.mono HB.out.size))
    have x0 : w1.cell? ⟨w.heap.size, 0, none⟩ = some (.int .i64 n) := cell_of_row w1 w.heap.size 0 _ _ (0, 0) HX1.out
    have x1 : w1.cell? ⟨w.heap.size, 1, none⟩ = some (.slice A ls.length c) := cell_of_row w1 w.heap.size 1 _ _ (0, 0) HX1.out
    clear hb1
    go_wp2_with fail
    refine (HWO.out (by trivial) w1 HB1.out).mono ?_
    rintro e w2 ⟨rfl, hb2⟩
    have HB2 : Hid (Below w.heap.size w w2) := hide (HB1.out.trans (hb2.mono HB1.out.size))
    clear hb2 x0 x1
    go_wp2_with fail
    go_ret2
    exact ⟨rfl, HB2.out⟩
  · have e1 : ce = ie := by rw [HE.out, if_pos h0]
    have e2 : cc = 0 := by rw [HC.out, if_pos h0]
    subst e1 e2
    have h0' : (ce != 0) = true := by simpa using h0
    clear HE HC h0
    go_enter Tryd.func40, Tryd.ntmps40
    go_wp2_with fail
    refine (HI.out).mono ?_
    rintro e w1 ⟨rfl, hb1⟩
    have HB1 : Hid (Below w.heap.size w w1) := hide (HB.out.trans (hb1.mono HB.out.size))
    clear hb1
    go_wp2_with fail
    go_ret2
    exact ⟨rfl, HB1.out⟩
end Go.Proofs.YtinkieogcpidkaaDoor
