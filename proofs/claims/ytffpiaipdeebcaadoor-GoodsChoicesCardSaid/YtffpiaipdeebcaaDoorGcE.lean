/- goods.Worth and goods.Taken of any instance. -/
import Derived.Test.YtffpiaipdeebcaaDoorGcF
import Derived.Test.YtffpiaipdeebcaaDoorTk
namespace Go.Proofs.YtffpiaipdeebcaaDoor
open Go.RowKit Go.Maps Go.Shelf
open Go.ChangeMaps Go.WideMaps

def chErr (n : Int) (ls : List (List Offer)) (zs : List Int) : Int := if instE n ls ≠ 0 then 2 else chE ls zs
def chWorth (n : Int) (ls : List (List Offer)) (zs : List Int) : Int := if chErr n ls zs ≠ 0 then 0 else sumC (outL ls zs)
def chTaken (n : Int) (ls : List (List Offer)) (zs : List Int) : List Nat := if chErr n ls zs ≠ 0 then [] else (outL ls zs).map (·.1)
set_option maxRecDepth 100000 in
set_option maxHeartbeats 2000000 in
theorem chosen_bad (n : Int) (A : Option Addr) (c : Nat) (hs : List Hdr) (ls : List (List Offer)) (Z : Value) (w : World) (h : Buys w w.heap.size A hs ls) (hbad : instE n ls ≠ 0) (hw : BWide ls) :
    Calls Tryd.prog 48 #[instV n A ls.length c, Z] w (ValPost (.tuple #[.slice none 0 0, .int .i64 2]) w) := by
  have HB : Hid (Below w.heap.size w (w.alloc (.cells #[.int .i64 n, .slice A ls.length c] 49))) := hide ((Below.refl _ _).alloc (Nat.le_refl _) _)
  have HCK := hide (gcheck_any n A c hs ls _ (h.up HB.out) hw)
  have h2 : (checkT n ls).2.2 = 2 := by
    rcases checkT_cases n ls with h | h
    · exact h
    · exact absurd (checkT_ok.1 (by rw [h])) hbad
  unfold checkV at HCK
  rw [h2] at HCK
  generalize (checkT n ls).1 = r0 at *
  generalize (checkT n ls).2.1 = r1 at *
  clear h hbad hw h2
  simp only [instV] at *
  go_enter Tryd.func48, Tryd.ntmps48
  go_wp2_with fail
  refine (HCK.out).mono ?_
  rintro e w1 ⟨rfl, hb1⟩
  have HB1 : Hid (Below w.heap.size w w1) := hide (HB.out.trans (hb1.mono HB.out.size))
  clear hb1
  go_wp2_with fail
  refine bodyPost_ret (v := .tuple #[.slice none 0 0, .int .i64 2]) (by simp [results, Tryd.results48, go_sem]) rfl ?_
  exact ⟨rfl, HB1.out⟩
set_option maxRecDepth 100000 in
set_option maxHeartbeats 2000000 in
theorem worth_bad (n : Int) (A : Option Addr) (c : Nat) (hs : List Hdr) (ls : List (List Offer)) (Z : Option Addr) (zn zc : Nat) (w : World) (h : Buys w w.heap.size A hs ls) (hbad : instE n ls ≠ 0) (hw : BWide ls) :
    Calls Tryd.prog 27 #[instV n A ls.length c, .slice Z zn zc] w (ValPost (.tuple #[.int .i64 0, .int .i64 2]) w) := by
  have HB : Hid (Below w.heap.size w (w.alloc (.cells #[.int .i64 n, .slice A ls.length c] 49))) := hide ((Below.refl _ _).alloc (Nat.le_refl _) _)
  have HCH := hide (chosen_bad n A c hs ls (.slice Z zn zc) _ (h.up HB.out) hbad hw)
  unfold ValPost at HCH
  clear h hbad hw
  simp only [instV] at *
  go_enter Tryd.func27, Tryd.ntmps27
  go_wp2_with fail
  refine (HCH.out).mono ?_
  rintro e w1 ⟨rfl, hb1⟩
  have HB1 : Hid (Below w.heap.size w w1) := hide (HB.out.trans (hb1.mono HB.out.size))
  clear hb1 HCH
  go_wp2_with fail
  go_loopw [8, 19] (fun sv iv wr => sv = .int .i64 0 ∧ iv = .int .i64 0 ∧ w1 = wr) (fun _ _ _ => 0)
  case atStart => exact ⟨rfl, rfl, by trivial⟩
  case round =>
    obtain ⟨rfl, rfl, rfl⟩ := hrel
    go_wp2_with fail
    go_ret2
    exact ⟨rfl, HB1.out⟩
set_option maxRecDepth 100000 in
set_option maxHeartbeats 2000000 in
theorem taken_bad (n : Int) (A : Option Addr) (c : Nat) (hs : List Hdr) (ls : List (List Offer)) (Z : Option Addr) (zn zc : Nat) (w : World) (h : Buys w w.heap.size A hs ls) (hbad : instE n ls ≠ 0) (hw : BWide ls) :
    Calls Tryd.prog 28 #[instV n A ls.length c, .slice Z zn zc] w (fun e w' => ∃ A c, e = .returned (.tuple #[.slice A 0 c, .int .i64 2]) ∧ w'.ownsRow w.heap.size 25 1 (.slice A 0 c) 0 [] ∧ Below w.heap.size w w') := by
  have HB : Hid (Below w.heap.size w (w.alloc (.cells #[.int .i64 n, .slice A ls.length c] 49))) := hide ((Below.refl _ _).alloc (Nat.le_refl _) _)
  have HCH := hide (chosen_bad n A c hs ls (.slice Z zn zc) _ (h.up HB.out) hbad hw)
  unfold ValPost at HCH
  clear h hbad hw
  simp only [instV] at *
  go_enter Tryd.func28, Tryd.ntmps28
  go_wp2_with fail
  refine (HCH.out).mono ?_
  rintro e w1 ⟨rfl, hb1⟩
  have HB1 : Hid (Below w.heap.size w w1) := hide (HB.out.trans (hb1.mono HB.out.size))
  have HO0 : Hid ((w1.alloc (.cells #[] 25)).ownsRow w1.heap.size 25 1 (.slice (some ⟨w1.heap.size, 0, none⟩) 0 0) 0 []) := hide (World.ownsRow_made w1 #[] 0 (Nat.le_refl _) (by decide) rfl)
  have HB2 := hide (HB1.out.trans (((Below.refl w1.heap.size w1).alloc (Nat.le_refl _) (.cells #[] 25)).mono HB1.out.size))
  clear hb1 HCH
  go_upto_region 4 with fail
  generalize w1.alloc (.cells #[] 25) = w2 at *
  go_loopw [8, 20] (fun sv iv wr => sv = .slice (some ⟨w1.heap.size, 0, none⟩) 0 0 ∧ iv = .int .i64 0 ∧ w2 = wr) (fun _ _ _ => 0)
  case atStart => exact ⟨rfl, rfl, by trivial⟩
  case round =>
    obtain ⟨rfl, rfl, rfl⟩ := hrel
    go_wp2_with fail
    go_ret2
    exact ⟨some ⟨w1.heap.size, 0, none⟩, 0, rfl, own_base HO0.out HB1.out.size, HB2.out⟩
theorem worth_all (n : Int) (A : Option Addr) (c : Nat) (hs : List Hdr) (ls : List (List Offer)) (Z : Option Addr) (zc : Nat) (zs : List Int) (w : World) (h : Buys w w.heap.size A hs ls) (hw : BWide ls)
    (hz : One intV w w.heap.size Z zs) (hzl : zs.length * 8 ≤ 140737488351232) (hT : TabW w) :
    Calls Tryd.prog 27 #[instV n A ls.length c, .slice Z zs.length zc] w (ValPost (.tuple #[.int .i64 (chWorth n ls zs), .int .i64 (chErr n ls zs)]) w) := by
  by_cases hok : instE n ls = 0
  · have e1 : chErr n ls zs = chE ls zs := by unfold chErr; rw [if_neg (by simp [hok])]
    have e2 : chWorth n ls zs = worthC ls zs := by unfold chWorth worthC; rw [e1]
    rw [e1, e2]
    exact worth_any n A c hs ls Z zc zs w h hok hw hz hzl hT
  · have e1 : chErr n ls zs = 2 := by unfold chErr; rw [if_pos hok]
    have e2 : chWorth n ls zs = 0 := by unfold chWorth; rw [e1]; rfl
    rw [e1, e2]
    exact worth_bad n A c hs ls Z _ zc w h hok hw
def TakenAP (n : Int) (ls : List (List Offer)) (zs : List Int) (w : World) (e : Ending) (w' : World) : Prop :=
  ∃ A c, e = .returned (.tuple #[.slice A (chTaken n ls zs).length c, .int .i64 (chErr n ls zs)]) ∧ w'.ownsRow w.heap.size 25 1 (.slice A (chTaken n ls zs).length c) (chTaken n ls zs).length ((chTaken n ls zs).map gV) ∧ Below w.heap.size w w'
theorem taken_all (n : Int) (A : Option Addr) (c : Nat) (hs : List Hdr) (ls : List (List Offer)) (Z : Option Addr) (zc : Nat) (zs : List Int) (w : World) (h : Buys w w.heap.size A hs ls) (hw : BWide ls)
    (hz : One intV w w.heap.size Z zs) (hzl : zs.length * 8 ≤ 140737488351232) (hT : TabW w) :
    Calls Tryd.prog 28 #[instV n A ls.length c, .slice Z zs.length zc] w (TakenAP n ls zs w) := by
  unfold TakenAP
  by_cases hok : instE n ls = 0
  · have e1 : chErr n ls zs = chE ls zs := by unfold chErr; rw [if_neg (by simp [hok])]
    have e2 : chTaken n ls zs = takenL ls zs := by unfold chTaken takenL; rw [e1]
    rw [e1, e2]
    exact taken_any n A c hs ls Z zc zs w h hok hw hz hzl hT
  · have e1 : chErr n ls zs = 2 := by unfold chErr; rw [if_pos hok]
    have e2 : chTaken n ls zs = [] := by unfold chTaken; rw [e1]; rfl
    rw [e1, e2]
    exact taken_bad n A c hs ls Z _ zc w h hok hw
end Go.Proofs.YtffpiaipdeebcaaDoor
