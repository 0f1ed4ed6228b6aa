/- The walks of goods.Worth, offers.Choice: what a choice is worth. -/
import Derived.Test.YtffpiaipdeebcaaDoorChosen
namespace Go.Proofs.YtffpiaipdeebcaaDoor
open Go.RowKit

def sumC (l : List Offer) : Int := l.foldl (fun s o => s + o.2) 0
theorem sumC_snoc (l : List Offer) (o : Offer) : sumC (l ++ [o]) = sumC l + o.2 := by simp [sumC]
theorem sumC_bd : ∀ (l : List Offer), (∀ o ∈ l, 0 ≤ o.2 ∧ o.2 ≤ 1099511627776) → 0 ≤ sumC l ∧ sumC l ≤ l.length * 1099511627776 := by
  have key : ∀ (l : List Offer) (m : Int), (∀ o ∈ l, 0 ≤ o.2 ∧ o.2 ≤ 1099511627776) → m ≤ l.foldl (fun s o => s + o.2) m ∧ l.foldl (fun s o => s + o.2) m ≤ m + l.length * 1099511627776 := by
    intro l
    induction l with
    | nil => exact fun m _ => ⟨Int.le_refl _, by simp⟩
    | cons o l ih =>
      intro m h
      have h1 := ih (m + o.2) (fun p hp => h p (List.mem_cons_of_mem _ hp))
      have h2 := h o (List.mem_cons_self ..)
      simp only [List.foldl_cons, List.length_cons]
      omega
  intro l h
  have := key l 0 h
  unfold sumC
  omega
def worthC (ls : List (List Offer)) (zs : List Int) : Int := if chE ls zs ≠ 0 then 0 else sumC (outL ls zs)
theorem outL_bd {ls : List (List Offer)} (hg : GoodB ls) (zs : List Int) : ∀ o ∈ outL ls zs, 0 ≤ o.2 ∧ o.2 ≤ 1099511627776 := by
  intro o ho
  obtain ⟨i, hi⟩ := List.getElem?_of_mem ho
  unfold outL at hi
  rw [List.getElem?_zipWith] at hi
  cases h1 : ls[i]? with
  | none => rw [h1] at hi; simp at hi
  | some l =>
    cases h2 : zs[i]? with
    | none => rw [h1, h2] at hi; simp at hi
    | some z =>
      rw [h1, h2] at hi
      injection hi with hi
      rw [← hi]
      unfold pickO
      split
      · cases h3 : l[z.toNat]? with
        | none => simp
        | some o' =>
          have := hg l (List.mem_of_getElem? h1) o' (List.mem_of_getElem? h3)
          simp only [Option.getD_some]
          omega
      · simp
theorem chE_cases (ls : List (List Offer)) (zs : List Int) : chE ls zs = 0 ∨ chE ls zs = 170 := by
  unfold chE
  split
  · exact .inr rfl
  · split
    · exact .inr rfl
    · split
      · exact .inl rfl
      · exact .inr rfl

set_option maxRecDepth 100000 in
set_option maxHeartbeats 2000000 in
theorem worth_any (n : Int) (A : Option Addr) (c : Nat) (hs : List Hdr) (ls : List (List Offer)) (Z : Option Addr) (zc : Nat) (zs : List Int) (w : World) (h : Buys w w.heap.size A hs ls) (hok : instE n ls = 0) (hw : BWide ls)
    (hz : One intV w w.heap.size Z zs) (hzl : zs.length * 8 ≤ 140737488351232) (hT : TabW w) :
    Calls Tryd.prog 27 #[instV n A ls.length c, .slice Z zs.length zc] w (ValPost (.tuple #[.int .i64 (worthC ls zs), .int .i64 (chE ls zs)]) w) := by
  have HB : Hid (Below w.heap.size w (w.alloc (.cells #[.int .i64 n, .slice A ls.length c] 49))) := hide ((Below.refl _ _).alloc (Nat.le_refl _) _)
  have HCH := hide (chosen_any n A c hs ls Z zc zs _ (h.up HB.out) hok hw (hz.up HB.out) hzl (hT.below HB.out))
  have hfew : ls.length ≤ 32 := (instE_ok.1 hok).2.1
  have HOB := hide (outL_bd (instE_good hw hok).good zs)
  have HWC : Hid (worthC ls zs = if chE ls zs ≠ 0 then 0 else sumC (outL ls zs)) := hide rfl
  unfold ChosenPost at HCH
  clear h hok hw hz hT
  generalize hce : chE ls zs = ce at *
  generalize worthC ls zs = wc at *
  clear hce
  generalize outL ls zs = out at *
  simp only [instV] at *
  go_enter Tryd.func27, Tryd.ntmps27
  go_wp2_with fail
  refine (HCH.out).mono ?_
  rintro e w1 (⟨hne, rfl, hb1⟩ | ⟨h0, A1, c1, rfl, hoff, hlen, hb1⟩)
  · have HB1 : Hid (Below w.heap.size w w1) := hide (HB.out.trans (hb1.mono HB.out.size))
    have hwc : wc = 0 := by rw [HWC.out, if_pos hne]
    subst hwc
    clear hb1 HCH
    go_wp2_with fail
    go_loopw [8, 19] (fun sv iv wr => sv = .int .i64 0 ∧ iv = .int .i64 0 ∧ w1 = wr) (fun _ _ _ => 0)
    case atStart => exact ⟨rfl, rfl, by trivial⟩
    case round =>
      obtain ⟨rfl, rfl, rfl⟩ := hrel
      go_wp2_with fail
      go_ret2
      exact ⟨rfl, HB1.out⟩
  · subst h0
    have hwc : wc = sumC out := by rw [HWC.out, if_neg (by simp)]
    subst hwc
    have HB1 : Hid (Below w.heap.size w w1) := hide (HB.out.trans (hb1.mono HB.out.size))
    have HOF := hide hoff
    rw [← hlen]
    have hle : out.length ≤ 32 := by omega
    clear hb1 hoff HCH
    go_wp2_with fail
    go_loopw [8, 19] (fun sv iv wr => ∃ k : Nat, k ≤ out.length ∧ iv = .int .i64 k ∧ sv = .int .i64 (sumC (out.take k)) ∧ Below w1.heap.size w1 wr) (fun _ iv _ => out.length - (intOf iv).toNat)
    case atStart => exact ⟨0, Nat.zero_le _, rfl, rfl, Below.refl _ _⟩
    case round =>
      obtain ⟨k, hk, rfl, rfl, hb⟩ := hrel
      have HBR := hide hb
      clear hb
      by_cases hlt : k < out.length
      · obtain ⟨b1, o1, rfl, hbB, hat⟩ := Offs.at_ HOF.out (by omega)
        obtain ⟨e0, e1⟩ := hat k out[k] (List.getElem?_eq_getElem hlt)
        have d0 := (HBR.out.cell (p := ⟨b1, o1 + k * 2, none⟩) hbB).trans e0
        have d1 := (HBR.out.cell (p := ⟨b1, o1 + k * 2 + 1, none⟩) hbB).trans e1
        have HSN : Hid (sumC (out.take (k + 1)) = sumC (out.take k) + out[k].2) := hide (by rw [List.take_add_one, List.getElem?_eq_getElem hlt]; exact sumC_snoc _ _)
        have hxb := HOB.out out[k] (List.getElem_mem hlt)
        have hsb := sumC_bd (out.take k) (fun o ho => HOB.out o (List.mem_of_mem_take ho))
        have htl : (out.take k).length ≤ 32 := by rw [List.length_take]; omega
        generalize out[k] = x at *
        obtain ⟨xg, xc⟩ := x
        simp only at d0 d1 hxb
        have hw1 : IntKind.i64.wrap (sumC (out.take k) + xc) = sumC (out.take k) + xc := Go.IntWalk.i64_in _ (by omega)
        have hki : (k : Int) < (out.length : Int) := by omega
        have HBA : Hid (∀ o, Below w1.heap.size w1 (wr.alloc o)) := hide (fun o => HBR.out.alloc HBR.out.size o)
        clear e0 e1 hat hxb hsb htl
        go_wp2_with fail
        go_roundw
        case rel => exact ⟨k + 1, by omega, by go_num, by rw [HSN.out], HBA.out _⟩
        case measure => simp [intOf]; omega
      · obtain rfl : k = out.length := by omega
        rw [List.take_of_length_le (Nat.le_refl _)]
        go_wp2_with fail
        go_ret2
        exact ⟨rfl, HB1.out.trans (HBR.out.mono HB1.out.size)⟩

def choiceE (n : Int) (ls : List (List Offer)) (zs : List Int) : Int := if instE n ls ≠ 0 then instE n ls else chE ls zs
def choiceC (n : Int) (ls : List (List Offer)) (zs : List Int) : Int := if instE n ls ≠ 0 then 0 else worthC ls zs
end Go.Proofs.YtffpiaipdeebcaaDoor
