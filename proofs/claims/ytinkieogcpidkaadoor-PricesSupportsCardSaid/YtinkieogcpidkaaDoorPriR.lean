/- The walks of prices.check, Rest, Bound, Gain, Cost. -/
import Derived.Test.YtinkieogcpidkaaDoorPriG
namespace Go.Proofs.YtinkieogcpidkaaDoor
open Go.RowKit Go.Maps Go.Shelf
open Go.ChangeMaps Go.WideMaps

theorem any_no {α : Type} {f : α → Bool} {l : List α} (h : ∀ (j : Nat) y, j < l.length → l[j]? = some y → f y = false) : l.any f = false := by
  rw [List.any_eq_false]
  intro x hx
  obtain ⟨i, hi, rfl⟩ := List.getElem_of_mem hx
  rw [h i _ hi (List.getElem?_eq_getElem hi)]
  simp
theorem any_yes {α : Type} {f : α → Bool} {l : List α} {k : Nat} {x : α} (h : l[k]? = some x) (hx : f x = true) : l.any f = true :=
  List.any_eq_true.2 ⟨x, List.mem_of_getElem? h, hx⟩

set_option maxRecDepth 100000 in
set_option maxHeartbeats 4000000 in
theorem pcheck_any (n : Int) (A : Option Addr) (c : Nat) (hs : List Hdr) (ls : List (List Offer)) (P : Option Addr) (pc : Nat) (p : List Int) (w : World)
    (hB : Buys w w.heap.size A hs ls) (hl : ls.length ≤ 1000000) (hls : BLens ls) (hw : BWide ls) (hp : One intV w w.heap.size P p) (hpl : p.length ≤ 1000000) :
    Calls Tryd.prog 35 #[instV n A ls.length c, .slice P p.length pc] w (ValPost (.int .i64 (priE n ls p)) w) := by
  have HI := hide (fun W (hb : Below w.heap.size w W) => inst_any n A c hs ls W (hB.up hb) hl hls hw)
  have hat := One.at_ hp
  have HB0 : Hid (Below w.heap.size w (w.alloc (.cells #[.int .i64 n, .slice A ls.length c] 24))) := hide ((Below.refl _ _).alloc (Nat.le_refl _) _)
  have HX0 : Hid ((w.alloc (.cells #[.int .i64 n, .slice A ls.length c] 24)).heap[w.heap.size]? = some (.cells #[.int .i64 n, .slice A ls.length c] 24 (0, 0))) := hide (heap_alloc_new w _)
  clear hB hls hw hp
  simp only [instV] at *
  go_enter Tryd.func35, Tryd.ntmps35
  go_upto_region 1 with fail
  generalize w.alloc (.cells #[.int .i64 n, .slice A ls.length c] 24) = w0 at *
  have x0 := cell_of_row _ _ 0 _ _ (0, 0) HX0.out
  have x1 := cell_of_row _ _ 1 _ _ (0, 0) HX0.out
  simp only [List.getElem?_toArray, List.getElem?_cons_zero, List.getElem?_cons_succ] at x0 x1
  have HC := hide (HI.out w0 HB0.out)
  obtain ⟨ie, hie⟩ : ∃ ie, instE n ls = ie := ⟨_, rfl⟩
  rw [hie] at HC
  have HIE := hide hie
  clear hie
  go_upto_region 2 with (go_at_call 42; refine (HC.out).mono ?_; rintro e w1 ⟨rfl, hb1⟩; have HB1 := hide (HB0.out.trans (hb1.mono HB0.out.size)); have HX1 := hide ((hb1.block _ (lt_of_block HX0.out)).trans HX0.out); clear hb1)
  clear x0 x1 HC HB0 HX0 HI
  have x0 := cell_of_row _ _ 0 _ _ (0, 0) HX1.out
  simp only [List.getElem?_toArray, List.getElem?_cons_zero] at x0
  by_cases h0 : ie = 0
  case neg =>
    have HE : Hid (priE n ls p = ie) := hide (by unfold priE; rw [HIE.out, if_pos h0])
    have hne : (ie != 0) = true := by simpa using h0
    go_wp2_with fail
    go_ret
    exact ⟨by rw [HE.out]; rfl, HB1.out⟩
  subst h0
  by_cases h1 : (p.length : Int) = n
  case neg =>
    have HE : Hid (priE n ls p = 2) := hide (by unfold priE; rw [HIE.out, if_neg (by simp), if_pos h1])
    have hne : ((p.length : Int) != n) = true := by simpa using h1
    go_wp2_with fail
    go_ret
    exact ⟨by rw [HE.out]; rfl, HB1.out⟩
  subst h1
  have hne : ((p.length : Int) != (p.length : Int)) = false := by simp
  have HE2 : Hid (p.any badP = true → priE (p.length : Int) ls p = 2) := hide (fun h => by unfold priE; rw [HIE.out, if_neg (by simp), if_neg (by simp), if_pos h])
  have HE0 : Hid (p.any badP = false → priE (p.length : Int) ls p = 0) := hide (fun h => by unfold priE; rw [HIE.out, if_neg (by simp), if_neg (by simp), h]; rfl)
  go_wp2_with fail
  clear x0
  go_loopw [20] (fun iv wr => ∃ k : Nat, k ≤ p.length ∧ iv = .int .i64 k ∧ (∀ (j : Nat) y, j < k → p[j]? = some y → badP y = false) ∧ w1 = wr) (fun iv _ => p.length - (intOf iv).toNat)
  case atStart => exact ⟨0, Nat.zero_le _, rfl, fun j y hj => absurd hj (by omega), by trivial⟩
  case round =>
    obtain ⟨k, hk, rfl, hno, rfl⟩ := hrel
    have HN := hide hno
    clear hno
    by_cases hlt : k < p.length
    · obtain ⟨b, o, rfl, hbB, hcc⟩ := hat (by omega)
      obtain ⟨x, hx⟩ : ∃ x, p[k]? = some x := ⟨p[k], List.getElem?_eq_getElem hlt⟩
      have d0 := (HB1.out.cell (p := ⟨b, o + k, none⟩) hbB).trans (hcc k x hx)
      have hki : (k : Int) < (p.length : Int) := by omega
      have HX := hide hx
      clear hcc hx
      by_cases q1 : x < 0
      · have e1 : decide (x < 0) = true := decide_eq_true q1
        have HR := hide (HE2.out (any_yes HX.out (by unfold badP; rw [e1]; rfl)))
        go_wp2_with fail
        go_ret
        exact ⟨by rw [HR.out]; rfl, HB1.out⟩
      · have e1 : decide (x < 0) = false := decide_eq_false q1
        by_cases q2 : (1099511627776 : Int) < x
        · have e2 : decide ((1099511627776 : Int) < x) = true := decide_eq_true q2
          have HR := hide (HE2.out (any_yes HX.out (by unfold badP; rw [e1, e2]; rfl)))
          go_wp2_with fail
          go_ret
          exact ⟨by rw [HR.out]; rfl, HB1.out⟩
        · have e2 : decide ((1099511627776 : Int) < x) = false := decide_eq_false q2
          have HG : Hid (badP x = false) := hide (by unfold badP; rw [e1, e2]; rfl)
          go_wp2_with fail
          go_roundw
          case rel => exact ⟨k + 1, by omega, by go_num, no_next HN.out HX.out HG.out, by trivial⟩
          case measure => simp [intOf]; omega
    · obtain rfl : k = p.length := by omega
      have HR := hide (HE0.out (any_no HN.out))
      go_wp2_with fail
      go_ret
      exact ⟨by rw [HR.out]; rfl, HB1.out⟩

def RestPost (n : Int) (ls : List (List Offer)) (k : Int) (free : Nat) (p : List Int) (w : World) (e : Ending) (w' : World) : Prop := ValPost (.tuple #[.int .i64 (restE n ls k free p).1, .int .i64 (restE n ls k free p).2]) w e w'
theorem priE_goods {n : Int} {ls : List (List Offer)} {p : List Int} (h : priE n ls p = 0) : 1 ≤ n ∧ n ≤ 10 := by
  unfold priE at h
  split at h
  · contradiction
  · next h1 =>
    simp only [ne_eq, Classical.not_not] at h1
    unfold instE at h1
    split at h1
    · cases h1
    · omega
theorem board_alloc (w : World) (cnt : Nat → Int) : (w.alloc (.cells (rowC fun _ => 0) 76)).setRow w.heap.size (rowC cnt) = w.alloc (.cells (rowC cnt) 76) := World.setRow_alloc_new _ _ _ _

set_option maxRecDepth 100000 in
set_option maxHeartbeats 4000000 in
theorem restP_any (n : Int) (A : Option Addr) (c : Nat) (hs : List Hdr) (ls : List (List Offer)) (k : Int) (free : Nat) (hf : free < 4294967296) (P : Option Addr) (pc : Nat) (p : List Int) (w : World) (hT : TabW w)
    (hB : Buys w w.heap.size A hs ls) (hc : ls.length ≤ c) (hl : ls.length ≤ 1000000) (hls : BLens ls) (hw : BWide ls) (hp : One intV w w.heap.size P p) (hpl : p.length ≤ 1000000) (hpz : P = none → pc = 0) :
    Calls Tryd.prog 13 #[instV n A ls.length c, .int .i64 k, .int .u32 (free : Int), .slice P p.length pc] w (RestPost n ls k free p w) := by
  have HB0 : Hid (Below w.heap.size w (w.alloc (.cells #[.int .i64 n, .slice A ls.length c] 24))) := hide ((Below.refl _ _).alloc (Nat.le_refl _) _)
  have HX0 : Hid ((w.alloc (.cells #[.int .i64 n, .slice A ls.length c] 24)).heap[w.heap.size]? = some (.cells #[.int .i64 n, .slice A ls.length c] 24 (0, 0))) := hide (heap_alloc_new w _)
  have HCK := hide (fun W (hb : Below w.heap.size w W) => pcheck_any n A c hs ls P pc p W (hB.up hb) hl hls hw (hp.up hb) hpl)
  have HBY := hide hB
  have HPP := hide hp
  have HT := hide hT
  have HLS := hide hls
  have HW := hide hw
  clear hB hp hT hls hw
  simp only [instV] at *
  go_enter Tryd.func13, Tryd.ntmps13
  go_upto_region 1 with fail
  generalize w.alloc (.cells #[.int .i64 n, .slice A ls.length c] 24) = w0 at *
  have x0 := cell_of_row _ _ 0 _ _ (0, 0) HX0.out
  have x1 := cell_of_row _ _ 1 _ _ (0, 0) HX0.out
  simp only [List.getElem?_toArray, List.getElem?_cons_zero, List.getElem?_cons_succ] at x0 x1
  have HC := hide (HCK.out w0 HB0.out)
  obtain ⟨ie, hie⟩ : ∃ ie, priE n ls p = ie := ⟨_, rfl⟩
  rw [hie] at HC
  have HIE := hide hie
  clear hie
  go_upto_region 2 with (go_at_call 35; refine (HC.out).mono ?_; rintro e w1 ⟨rfl, hb1⟩; have HB1 := hide (HB0.out.trans (hb1.mono HB0.out.size)); have HX1 := hide ((hb1.block _ (lt_of_block HX0.out)).trans HX0.out); clear hb1)
  clear x0 x1 HC HB0 HX0 HCK
  have x0 := cell_of_row _ _ 0 _ _ (0, 0) HX1.out
  have x1 := cell_of_row _ _ 1 _ _ (0, 0) HX1.out
  simp only [List.getElem?_toArray, List.getElem?_cons_zero, List.getElem?_cons_succ] at x0 x1
  by_cases h0 : ie = 0
  case neg =>
    have HE : Hid (restE n ls k free p = (0, ie)) := hide (by unfold restE; rw [HIE.out, if_pos h0])
    have hne : (ie != 0) = true := by simpa using h0
    go_wp2_with fail
    go_ret2
    exact ⟨by rw [HE.out]; rfl, HB1.out⟩
  subst h0
  have HALL := hide (fun W => all_any n W)
  have hn10 := priE_goods HIE.out
  have hal : allI n < 4294967296 := by
    have e : allI n = allG n.toNat := by unfold allI; rw [if_neg (by omega)]
    rw [e]
    have := Nat.pow_le_pow_right (n := 2) (by omega) (show n.toNat ≤ 10 by omega)
    have h4 : 2 ^ 10 = 1024 := rfl
    unfold allG
    omega
  have hae : allE n = 0 := by unfold allE; rw [if_neg (by omega)]
  have HWI := hide (fun W => within_any free (allI n) hf hal W)
  unfold AllPost at HALL
  rw [hae] at HALL
  generalize hall : allI n = al at *
  have HAL := hide hall
  clear hn10 hall hae
  go_upto_region 5 with (go_at_call 32; refine (HALL.out _).mono ?_; rintro e w2 ⟨rfl, rfl⟩)
  by_cases h1 : k < 0
  · have e1 : decide (k < 0) = true := decide_eq_true h1
    have HE : Hid (restE n ls k free p = (0, 2)) := hide (by unfold restE; rw [HIE.out, if_neg (by simp), if_pos (.inl h1)])
    go_wp2_with fail
    go_ret2
    exact ⟨by rw [HE.out]; rfl, HB1.out⟩
  have e1 : decide (k < 0) = false := decide_eq_false h1
  by_cases h2 : (ls.length : Int) < k
  · have e2 : decide ((ls.length : Int) < k) = true := decide_eq_true h2
    have HE : Hid (restE n ls k free p = (0, 2)) := hide (by unfold restE; rw [HIE.out, if_neg (by simp), if_pos (.inr (.inl h2))])
    go_wp2_with fail
    go_ret2
    exact ⟨by rw [HE.out]; rfl, HB1.out⟩
  have e2 : decide ((ls.length : Int) < k) = false := decide_eq_false h2
  cases hwi : withinB free al
  · have HE : Hid (restE n ls k free p = (0, 2)) := hide (by unfold restE; rw [HIE.out, if_neg (by simp), if_pos (.inr (.inr (by rw [HAL.out]; exact hwi)))])
    rw [hwi] at HWI
    clear hwi
    go_wp2_with (go_at_call 36; refine (HWI.out _).mono ?_; rintro e w2 ⟨rfl, rfl⟩)
    go_ret2
    exact ⟨by rw [HE.out]; rfl, HB1.out⟩
  have HE : Hid (restE n ls k free p = (restC (cntP p) free ls k.toNat, 0)) := hide (by
    unfold restE
    rw [HIE.out, if_neg (by simp), if_neg]
    rw [HAL.out, hwi]
    simp
    omega)
  rw [hwi] at HWI
  obtain ⟨kn, rfl⟩ := Int.eq_ofNat_of_zero_le (show 0 ≤ k by omega)
  rw [Int.toNat_natCast] at HE
  have hkl : kn ≤ ls.length := by omega
  clear hwi h1 h2
  have HLD := hide (laid_any P pc p w1 (HPP.out.up HB1.out) hpl hpz)
  go_upto_region 7 with (go_at_call 36; refine (HWI.out _).mono ?_; rintro e w2 ⟨rfl, rfl⟩)
  go_wp2_with (first
    | (go_at_call 37; refine (HLD.out).mono ?_; rintro e w2 ⟨rfl, hb2⟩; have HB2 := hide (HB1.out.trans (hb2.mono HB1.out.size)); have HX2 := hide ((hb2.block _ (lt_of_block HX1.out)).trans HX1.out); clear hb2)
    | (refine wpList_store_row rfl 76 (.tmp 13) (.tmp 42) rfl w2.heap.size (rowC (cntP p)) rfl rfl 76 _ (heap_alloc_new w2 _) (by rw [bInfo, rowC_size]) (by rw [rowC_size]; rfl) (rowC_one _) ?_; rw [zeroC, board_alloc]
       have HBA : Hid (Below w2.heap.size w2 (w2.alloc (.cells (rowC (cntP p)) 76))) := hide ((Below.refl _ _).alloc (Nat.le_refl _) _)
       have HBO : Hid ((w2.alloc (.cells (rowC (cntP p)) 76)).heap[w2.heap.size]? = some (.cells (rowC (cntP p)) 76 (0, 0))) := hide (heap_alloc_new w2 _)
       have HB3 := hide (HB2.out.trans (HBA.out.mono HB2.out.size))
       have HX3 := hide ((HBA.out.block _ (lt_of_block HX2.out)).trans HX2.out)
       clear x0 x1 HBA
       generalize w2.alloc (.cells (rowC (cntP p)) 76) = w3 at *
       have x0 := cell_of_row _ _ 0 _ _ (0, 0) HX3.out
       have x1 := cell_of_row _ _ 1 _ _ (0, 0) HX3.out
       simp only [List.getElem?_toArray, List.getElem?_cons_zero, List.getElem?_cons_succ] at x0 x1
       have HRS := hide (rest_any w2.heap.size (cntP p) n A c hs ls kn hkl free hf w3 HBO.out (HT.out.below HB3.out) (HBY.out.up HB3.out) hc hl HLS.out HW.out))
    | (go_at_call 38; refine (HRS.out).mono ?_; rintro e w4 ⟨rfl, hb4⟩; have HB4 := hide (HB3.out.trans (hb4.mono HB3.out.size)); clear hb4))
  go_ret2
  exact ⟨by rw [HE.out]; rfl, HB4.out⟩
end Go.Proofs.YtinkieogcpidkaaDoor
