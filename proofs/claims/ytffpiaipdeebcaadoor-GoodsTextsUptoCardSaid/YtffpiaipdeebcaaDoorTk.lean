/- The walk of goods.Taken at an instance that may be. -/
import Derived.Test.YtffpiaipdeebcaaDoorWorth7
import Derived.Test.YtffpiaipdeebcaaDoorGd2
namespace Go.Proofs.YtffpiaipdeebcaaDoor
open Go.RowKit Go.Maps Go.Shelf
open Go.ChangeMaps Go.WideMaps

/-- What each buyer gets. -/
def takenL (ls : List (List Offer)) (zs : List Int) : List Nat := if chE ls zs ≠ 0 then [] else (outL ls zs).map (·.1)
def TakenP (ls : List (List Offer)) (zs : List Int) (w : World) (e : Ending) (w' : World) : Prop :=
  ∃ A c, e = .returned (.tuple #[.slice A (takenL ls zs).length c, .int .i64 (chE ls zs)]) ∧ w'.ownsRow w.heap.size 25 1 (.slice A (takenL ls zs).length c) (takenL ls zs).length ((takenL ls zs).map gV) ∧ Below w.heap.size w w'
set_option maxRecDepth 100000 in
set_option maxHeartbeats 4000000 in
theorem taken_any (n : Int) (A : Option Addr) (c : Nat) (hs : List Hdr) (ls : List (List Offer)) (Z : Option Addr) (zc : Nat) (zs : List Int) (w : World) (h : Buys w w.heap.size A hs ls) (hok : instE n ls = 0) (hw : BWide ls)
    (hz : One intV w w.heap.size Z zs) (hzl : zs.length * 8 ≤ 140737488351232) (hT : TabW w) :
    Calls Tryd.prog 28 #[instV n A ls.length c, .slice Z zs.length zc] w (TakenP ls zs w) := by
  have HB : Hid (Below w.heap.size w (w.alloc (.cells #[.int .i64 n, .slice A ls.length c] 49))) := hide ((Below.refl _ _).alloc (Nat.le_refl _) _)
  have HCH := hide (chosen_any n A c hs ls Z zc zs _ (h.up HB.out) hok hw (hz.up HB.out) hzl (hT.below HB.out))
  have hfew : ls.length ≤ 32 := (instE_ok.1 hok).2.1
  have HTL : Hid (takenL ls zs = if chE ls zs ≠ 0 then [] else (outL ls zs).map (·.1)) := hide rfl
  unfold ChosenPost at HCH
  unfold TakenP
  clear h hok hw hz hT
  generalize hce : chE ls zs = ce at *
  generalize takenL ls zs = T at *
  clear hce
  generalize outL ls zs = out at *
  simp only [instV] at *
  go_enter Tryd.func28, Tryd.ntmps28
  go_wp2_with fail
  refine (HCH.out).mono ?_
  rintro e w1 (⟨hne, rfl, hb1⟩ | ⟨h0, A1, c1, rfl, hoff, hlen, hb1⟩)
  · have HB1 : Hid (Below w.heap.size w w1) := hide (HB.out.trans (hb1.mono HB.out.size))
    have hwc : T = [] := by rw [HTL.out, if_pos hne]
    subst hwc
    have HO0 : Hid ((w1.alloc (.cells #[] 25)).ownsRow w1.heap.size 25 1 (.slice (some ⟨w1.heap.size, 0, none⟩) 0 0) 0 []) := hide (World.ownsRow_made w1 #[] 0 (Nat.le_refl _) (by decide) rfl)
    have HB2 := hide (HB1.out.trans (((Below.refl w1.heap.size w1).alloc (Nat.le_refl _) (.cells #[] 25)).mono HB1.out.size))
    clear hb1 HCH
    go_upto_region 4 with fail
    generalize w1.alloc (.cells #[] 25) = w2 at *
    go_loopw [8, 20] (fun sv iv wr => sv = .slice (some ⟨w1.heap.size, 0, none⟩) 0 0 ∧ iv = .int .i64 0 ∧ w2 = wr) (fun _ _ _ => 0)
    case atStart => exact ⟨rfl, rfl, by trivial⟩
    case round =>
      obtain ⟨rfl, rfl, rfl⟩ := hrel
      go_wp2_with fail
      go_ret2
      exact ⟨some ⟨w1.heap.size, 0, none⟩, 0, rfl, own_base HO0.out HB1.out.size, HB2.out⟩
  · subst h0
    have hwc : T = out.map (·.1) := by rw [HTL.out, if_neg (by simp)]
    subst hwc
    have HB1 : Hid (Below w.heap.size w w1) := hide (HB.out.trans (hb1.mono HB.out.size))
    have HO0 : Hid ((w1.alloc (.cells #[] 25)).ownsRow w1.heap.size 25 1 (.slice (some ⟨w1.heap.size, 0, none⟩) 0 0) 0 []) := hide (World.ownsRow_made w1 #[] 0 (Nat.le_refl _) (by decide) rfl)
    have HB2 : Hid (Below w1.heap.size w1 (w1.alloc (.cells #[] 25))) := hide ((Below.refl w1.heap.size w1).alloc (Nat.le_refl _) (.cells #[] 25))
    have HOF := hide hoff
    rw [← hlen]
    have hle : out.length ≤ 32 := by omega
    clear hb1 hoff HCH hlen
    go_upto_region 4 with fail
    have HZ0 : Hid (∃ g0, g0 = w1.heap.size) := hide ⟨_, rfl⟩
    obtain ⟨g0, hg0⟩ := HZ0.out
    rw [← hg0] at HO0 ⊢
    have HG0 := hide hg0
    generalize w1.alloc (.cells #[] 25) = w2 at *
    clear hg0
    go_loopw [8, 20] (fun sv iv wr => ∃ (k : Nat) (A2 : Option Addr) (c2 : Nat), k ≤ out.length ∧ iv = .int .i64 k ∧ sv = .slice A2 k c2 ∧ wr.ownsRow g0 25 1 (.slice A2 k c2) k ((out.take k).map fun o => gV o.1) ∧ Below w1.heap.size w1 wr) (fun _ iv _ => out.length - (intOf iv).toNat)
    case atStart => exact ⟨0, some ⟨g0, 0, none⟩, 0, Nat.zero_le _, rfl, rfl, HO0.out, HB2.out⟩
    case round =>
      obtain ⟨k, A2, c2, hk, rfl, rfl, ho, hb⟩ := hrel
      have HBR := hide hb
      have HO := hide ho
      clear hb ho HO0 HB2
      by_cases hlt : k < out.length
      · obtain ⟨b1, o1, rfl, hbB, hat⟩ := Offs.at_ HOF.out (by omega)
        obtain ⟨e0, e1⟩ := hat k out[k] (List.getElem?_eq_getElem hlt)
        have d0 := (HBR.out.cell (p := ⟨b1, o1 + k * 2, none⟩) hbB).trans e0
        have d1 := (HBR.out.cell (p := ⟨b1, o1 + k * 2 + 1, none⟩) hbB).trans e1
        have HSN : Hid ((out.take (k + 1)).map (fun o => gV o.1) = (out.take k).map (fun o => gV o.1) ++ [gV out[k].1]) := hide (by rw [List.take_add_one, List.getElem?_eq_getElem hlt, List.map_append]; rfl)
        generalize out[k] = x at *
        obtain ⟨xg, xc⟩ := x
        simp only at d0 d1 HSN
        have hki : (k : Int) < (out.length : Int) := by omega
        have G1 : Hid (∀ u ∈ [gV xg], u.oneCell' = true) := hide (fun u hu => by simp at hu; subst hu; rfl)
        have G2 : Hid (k + 1 ≤ maxLen) := hide (by unfold maxLen; omega)
        have G3 : Hid ((k + 1) * 4 ≤ 140737488355328) := hide (by omega)
        have hszr := HBR.out.size
        have HBA : Hid (Below w1.heap.size w1 (wr.alloc (.cells #[.int .u32 (xg : Int), .int .i64 xc] 74))) := hide (HBR.out.alloc HBR.out.size _)
        have HOA : Hid ((wr.alloc (.cells #[.int .u32 (xg : Int), .int .i64 xc] 74)).ownsRow g0 25 1 (.slice A2 k c2) k ((out.take k).map fun o => gV o.1)) := hide (own_below HO.out ((Below.refl _ _).alloc (Nat.le_refl _) _) (Nat.le_refl _))
        clear e0 e1 hat
        go_upto_region 6 with fail
        have hx := heap_alloc_new wr (.cells #[.int .u32 (xg : Int), .int .i64 xc] 74)
        have f0 := cell_of_row _ _ 0 _ _ (0, 0) hx
        have HW2 : Hid ((wr.alloc (.cells #[.int .u32 (xg : Int), .int .i64 xc] 74)).heap.size = wr.heap.size + 1) := hide (by simp)
        simp only [List.getElem?_toArray, List.getElem?_cons_zero] at f0
        clear hx
        generalize wr.alloc (.cells #[.int .u32 (xg : Int), .int .i64 xc] 74) = w3 at *
        go_wp2_with (at_builtin; refine wpList_append_any rfl (.tmp 24) (.tmp 27) 23 rfl g0 25 _ 1 4 infoG Tryd.underlying23 rfl (by decide) _ k ((out.take k).map fun o => gV o.1) rfl (own_below HOA.out ((Below.refl _ _).alloc (Nat.le_refl _) _) (Nat.le_refl _)) _ (some ⟨w3.heap.size, 0, none⟩) 1 1 [gV xg] rfl (reads_row7 (xs := [gV xg]) (heap_alloc_new w3 _) rfl) G1.out G2.out G3.out (by have := HW2.out; have := HG0.out; simp; omega) ?_; intro v4 w4 hown4 hg4 _; obtain ⟨A4, c4, hv4, _⟩ := own_sh hown4; subst hv4; have HO4 := hide hown4; have HB4 : Hid (Below w1.heap.size w1 w4) := hide ((HBA.out.alloc HBA.out.size _).grown hg4 (by have := HW2.out; simp; omega) (fun j hj => by have := (HOA.out.lt j hj).1; have := HG0.out; omega)); clear hown4 hg4)
        go_roundw
        case rel => exact ⟨k + 1, A4, c4, by omega, by go_num, rfl, by rw [HSN.out]; exact HO4.out, HB4.out⟩
        case measure => simp [intOf]; omega
      · obtain rfl : k = out.length := by omega
        have ho := HO.out
        rw [List.take_of_length_le (Nat.le_refl _)] at ho
        have HOE := hide ho
        have hsz := HG0.out
        clear ho
        go_wp2_with fail
        go_ret2
        refine ⟨A2, c2, ?_, ?_, HB1.out.trans (HBR.out.mono HB1.out.size)⟩
        · rw [List.length_map]; rfl
        · rw [List.length_map, List.map_map]
          exact own_base HOE.out (by have := HB1.out.size; omega)
end Go.Proofs.YtffpiaipdeebcaaDoor
