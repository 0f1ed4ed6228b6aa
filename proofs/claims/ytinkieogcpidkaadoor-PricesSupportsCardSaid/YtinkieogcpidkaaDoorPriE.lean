/- The descent, plain; and its walk. -/
import Derived.Test.YtinkieogcpidkaaDoorPriEq
namespace Go.Proofs.YtinkieogcpidkaaDoor
open Go.RowKit Go.Maps Go.Shelf
open Go.ChangeMaps Go.WideMaps

/-- One good's turn: dearer, else cheaper. -/
def goodD (ls : List (List Offer)) (al : Nat) (step : Int) (st : List Int × Int) (g : Nat) : List Int × Int :=
  if (tryD ls al g step st.1 st.2).1 then (tryD ls al g step st.1 st.2).2 else (tryD ls al g (IntKind.i64.wrap (-step)) (tryD ls al g step st.1 st.2).2.1 (tryD ls al g step st.1 st.2).2.2).2
/-- A pass over the first goods. -/
def passD (ls : List (List Offer)) (al : Nat) (step : Int) (st : List Int × Int) : Nat → List Int × Int
  | 0 => st
  | g + 1 => goodD ls al step (passD ls al step st g) g
/-- At most so many passes. -/
def passesD (ls : List (List Offer)) (al n : Nat) (step : Int) : Nat → List Int × Int → List Int × Int
  | 0, st => st
  | k + 1, st => if (passD ls al step st n).1 = st.1 then passD ls al step st n else passesD ls al n step k (passD ls al step st n)
/-- Step by step, each half of the one ahead. -/
def stepsD (ls : List (List Offer)) (al n : Nat) : Nat → Int → List Int × Int → List Int × Int
  | 0, _, st => st
  | f + 1, step, st => if 0 < step then stepsD ls al n f (step / 2) (passesD ls al n step 16 st) else st
def zeroP : List Int := List.replicate 32 0
def descD (n : Int) (ls : List (List Offer)) : List Int × Int := stepsD ls (allI n) n.toNat 42 maxC (zeroP, restC (cntP zeroP) (allI n) ls 0)
theorem steps_end (ls : List (List Offer)) (al n : Nat) (st : List Int × Int) : ∀ f step, ¬ (0 : Int) < step → stepsD ls al n f step st = st
  | 0, _, _ => rfl
  | f + 1, step, h => by simp only [stepsD]; rw [if_neg h]
theorem steps_go {ls : List (List Offer)} {al n : Nat} {st : List Int × Int} {f : Nat} {step : Int} (h : 0 < step) (hf : step < 2 ^ f) :
    ∃ f', f = f' + 1 ∧ step / 2 < 2 ^ f' ∧ stepsD ls al n f step st = stepsD ls al n f' (step / 2) (passesD ls al n step 16 st) := by
  cases f with
  | zero => simp at hf; omega
  | succ f =>
    refine ⟨f, rfl, ?_, ?_⟩
    · rw [Int.pow_succ] at hf
      omega
    · simp only [stepsD]
      rw [if_pos h]
theorem try_len (ls : List (List Offer)) (al g : Nat) (d : Int) (p : List Int) (now : Int) : (tryD ls al g d p now).2.1.length = p.length := by
  unfold tryD
  split
  · split
    · simp
    · rfl
  · rfl
theorem rowC_inj {p q : List Int} (hp : p.length = 32) (hq : q.length = 32) (h : rowC (cntP p) = rowC (cntP q)) : p = q := by
  apply List.ext_getElem?
  intro i
  by_cases hi : i < 32
  · have h1 := rowC_at (cntP p) hi
    have h2 := rowC_at (cntP q) hi
    rw [h, h2] at h1
    injection h1 with h1
    injection h1 with _ h1
    unfold cntP at h1
    rw [List.getD_eq_getElem?_getD, List.getD_eq_getElem?_getD, List.getElem?_eq_getElem (show i < p.length by omega), List.getElem?_eq_getElem (show i < q.length by omega)] at h1
    simp only [Option.getD_some] at h1
    rw [List.getElem?_eq_getElem (show i < p.length by omega), List.getElem?_eq_getElem (show i < q.length by omega), h1]
  · rw [List.getElem?_eq_none (by omega), List.getElem?_eq_none (by omega)]

/-- What the loops stand on. -/
structure DsW (w : World) (bb nc : Nat) (n : Int) (A : Option Addr) (c : Nat) (hs : List Hdr) (ls : List (List Offer)) (al : Nat) (p : List Int) (now : Int) (W : World) : Prop where
  ds : DsI w.heap.size bb w.heap.size (w.heap.size + 3) nc n A c hs ls al p now W
  bel : Below w.heap.size w W
  res : W.heap[w.heap.size + 1]? = some (.cells (rowC fun _ => 0) 76 (0, 0))
  lt : bb = w.heap.size + 2 ∧ w.heap.size + 3 < nc
section
variable {w W W' : World} {bb nc : Nat} {n : Int} {A : Option Addr} {c : Nat} {hs : List Hdr} {ls : List (List Offer)} {al : Nat} {p q : List Int} {now now' : Int}
theorem DsW.below (h : DsW w bb nc n A c hs ls al p now W) (hb : Below W.heap.size W W') : DsW w bb nc n A c hs ls al p now W' :=
  ⟨h.ds.below hb, h.bel.trans (hb.mono h.bel.size), (hb.block _ (lt_of_block h.res)).trans h.res, h.lt⟩
theorem DsW.turn (h : DsW w bb nc n A c hs ls al p now W) (hd : DsI w.heap.size bb w.heap.size (w.heap.size + 3) nc n A c hs ls al q now' W') (ht : Turns (fun k => k = bb ∨ k = nc) W W') : DsW w bb nc n A c hs ls al q now' W' := by
  have hl := h.lt
  exact ⟨hd, h.bel.trans (ht.below h.bel.size (fun k hk e => by rcases e with e | e <;> omega)), (ht.block _ (lt_of_block h.res) (fun e => by rcases e with e | e <;> omega)).trans h.res, hl⟩
end
theorem yes_any (g m : Int) (w : World) : Calls Tryd.prog 44 #[.int .i64 g, .int .i64 m] w (ValPost (.bool true) w) := by
  go_enter Tryd.func44, Tryd.ntmps44
  go_wp2
  go_ret
  exact ⟨rfl, Below.refl _ _⟩
theorem zero_row : rowC (fun _ => 0) = rowC (cntP zeroP) := rowC_same (fun j hj => by
  unfold cntP zeroP
  rw [List.getD_eq_getElem?_getD, List.getElem?_replicate]
  split <;> rfl)
set_option maxRecDepth 100000 in
set_option maxHeartbeats 8000000 in
theorem descend_any (n : Int) (hn : 1 ≤ n ∧ n ≤ 10) (A : Option Addr) (c : Nat) (hs : List Hdr) (ls : List (List Offer)) (w : World) (hT : TabW w)
    (hB : Buys w w.heap.size A hs ls) (hc : ls.length ≤ c) (hl : ls.length ≤ 1000000) (hls : BLens ls) (hw : BWide ls) :
    Calls Tryd.prog 43 #[instV n A ls.length c, .func (.func 44) #[] #[]] w (ValPost (.tuple #[.agg (rowC (cntP (descD n ls).1)), .int .i64 (descD n ls).2]) w) := by
  have HT := hide hT
  have HBY := hide hB
  have HLS := hide hls
  have HW := hide hw
  have hal := allI_lt n
  have HALL := hide (fun W => all_any n W)
  unfold AllPost at HALL
  have hae : allE n = 0 := by unfold allE; rw [if_neg (by omega)]
  rw [hae] at HALL
  obtain ⟨FIN, hFIN⟩ : ∃ FIN, FIN = descD n ls := ⟨_, rfl⟩
  rw [← hFIN]
  unfold descD at hFIN
  obtain ⟨al, hall⟩ : ∃ al, allI n = al := ⟨_, rfl⟩
  rw [hall] at hFIN hal HALL
  obtain ⟨nn, rfl⟩ := Int.eq_ofNat_of_zero_le (show 0 ≤ n by omega)
  rw [Int.toNat_natCast] at hFIN
  have HFIN := hide hFIN
  clear hT hB hls hw hae hall hFIN
  simp only [instV] at *
  go_enter Tryd.func43, Tryd.ntmps43
  go_wp2_with fail
  rw [zeroC]
  go_step3
  go_upto_region 2 with fail
  rw [zeroC]
  have HB3 : Hid (Below w.heap.size w (((w.alloc (.cells #[.int .i64 nn, .slice A ls.length c] 24)).alloc (.cells (rowC fun _ => 0) 76)).alloc (.cells (rowC fun _ => 0) 76))) := hide ((((Below.refl _ _).alloc (Nat.le_refl _) _).alloc (by simp) _).alloc (by simp; omega) _)
  have HX : Hid ((((w.alloc (.cells #[.int .i64 nn, .slice A ls.length c] 24)).alloc (.cells (rowC fun _ => 0) 76)).alloc (.cells (rowC fun _ => 0) 76)).heap[w.heap.size]? = some (.cells #[.int .i64 nn, .slice A ls.length c] 24 (0, 0))) :=
    hide ((Below.heap_alloc _ _ _ (by simp; omega)).trans ((Below.heap_alloc _ _ _ (by simp)).trans (heap_alloc_new w _)))
  have HY : Hid ((((w.alloc (.cells #[.int .i64 nn, .slice A ls.length c] 24)).alloc (.cells (rowC fun _ => 0) 76)).alloc (.cells (rowC fun _ => 0) 76)).heap[w.heap.size + 1]? = some (.cells (rowC fun _ => 0) 76 (0, 0))) :=
    hide ((Below.heap_alloc _ _ _ (by simp)).trans (by
      have := heap_alloc_new (w.alloc (.cells #[.int .i64 nn, .slice A ls.length c] 24)) (.cells (rowC fun _ => 0) 76)
      simpa using this))
  have HZ : Hid ((((w.alloc (.cells #[.int .i64 nn, .slice A ls.length c] 24)).alloc (.cells (rowC fun _ => 0) 76)).alloc (.cells (rowC fun _ => 0) 76)).heap[w.heap.size + 2]? = some (.cells (rowC fun _ => 0) 76 (0, 0))) :=
    hide (by
      have := heap_alloc_new ((w.alloc (.cells #[.int .i64 nn, .slice A ls.length c] 24)).alloc (.cells (rowC fun _ => 0) 76)) (.cells (rowC fun _ => 0) 76)
      simpa using this)
  have HS3 : Hid ((((w.alloc (.cells #[.int .i64 nn, .slice A ls.length c] 24)).alloc (.cells (rowC fun _ => 0) 76)).alloc (.cells (rowC fun _ => 0) 76)).heap.size = w.heap.size + 3) := hide (by simp)
  generalize ((w.alloc (.cells #[.int .i64 nn, .slice A ls.length c] 24)).alloc (.cells (rowC fun _ => 0) 76)).alloc (.cells (rowC fun _ => 0) 76) = w3 at *
  have x0 := cell_of_row _ _ 0 _ _ (0, 0) HX.out
  have x1 := cell_of_row _ _ 1 _ _ (0, 0) HX.out
  simp only [List.getElem?_toArray, List.getElem?_cons_zero, List.getElem?_cons_succ] at x0 x1
  go_upto_region 3 with (go_at_call 32; refine (HALL.out _).mono ?_; rintro e w2 ⟨rfl, rfl⟩)
  rw [HS3.out]
  have HBA : Hid (Below w3.heap.size w3 (w3.alloc (.cells #[.int .u32 (al : Int)] 26))) := hide ((Below.refl _ _).alloc (Nat.le_refl _) _)
  have HAL : Hid ((w3.alloc (.cells #[.int .u32 (al : Int)] 26)).heap[w.heap.size + 3]? = some (.cells #[.int .u32 (al : Int)] 26 (0, 0))) := hide (by rw [← HS3.out]; exact heap_alloc_new w3 _)
  clear x0 x1
  generalize w3.alloc (.cells #[.int .u32 (al : Int)] 26) = w4 at *
  have HB4 := hide (HB3.out.trans (HBA.out.mono HB3.out.size))
  have HX4 := hide ((HBA.out.block _ (lt_of_block HX.out)).trans HX.out)
  have HY4 := hide ((HBA.out.block _ (lt_of_block HY.out)).trans HY.out)
  have HZ4 : Hid (w4.heap[w.heap.size + 2]? = some (.cells (rowC (cntP zeroP)) 76 (0, 0))) := hide (by rw [← zero_row]; exact (HBA.out.block _ (lt_of_block HZ.out)).trans HZ.out)
  have x0 := cell_of_row _ _ 0 _ _ (0, 0) HX4.out
  have x1 := cell_of_row _ _ 1 _ _ (0, 0) HX4.out
  have x2 := cell_of_row _ _ 0 _ _ (0, 0) HAL.out
  simp only [List.getElem?_toArray, List.getElem?_cons_zero, List.getElem?_cons_succ] at x0 x1 x2
  clear HBA HB3 HX HY HZ HS3
  have HR := hide (rest_any (w.heap.size + 2) (cntP zeroP) nn A c hs ls 0 (Nat.zero_le _) al hal w4 HZ4.out (HT.out.below HB4.out) (HBY.out.up HB4.out) hc hl HLS.out HW.out)
  obtain ⟨r0, hr0⟩ : ∃ r0, restC (cntP zeroP) al ls 0 = r0 := ⟨_, rfl⟩
  rw [hr0] at HR HFIN
  clear hr0
  simp only [instV] at HR
  rw [show ((0 : Nat) : Int) = 0 from rfl] at HR
  have HTB : Hid (TabW w) := HT
  go_upto_region 4 with (go_at_call 38; refine (HR.out).mono ?_; rintro e w5 ⟨rfl, hb5⟩; have HB5 := hide hb5; clear hb5)
  have HDS : Hid (DsI w.heap.size (w.heap.size + 2) w.heap.size (w.heap.size + 3) w5.heap.size nn A c hs ls al zeroP r0 (w5.alloc (.cells #[.int .i64 r0] 2))) := hide (by
    have hb := (Below.refl w5.heap.size w5).alloc (Nat.le_refl _) (.cells #[.int .i64 r0] 2)
    have h1 := lt_of_block HAL.out
    have h2 := HB5.out.size
    exact ⟨(hb.block _ (by have := lt_of_block HZ4.out; omega)).trans ((HB5.out.block _ (lt_of_block HZ4.out)).trans HZ4.out), (hb.block _ (by have := lt_of_block HX4.out; omega)).trans ((HB5.out.block _ (lt_of_block HX4.out)).trans HX4.out), (hb.block _ (by omega)).trans ((HB5.out.block _ h1).trans HAL.out), heap_alloc_new w5 _, (HT.out.below (HB4.out.trans (HB5.out.mono HB4.out.size))).below hb, (HBY.out.below (HB4.out.trans (HB5.out.mono HB4.out.size))).below (hb.mono (by have := HB4.out.size; omega)), by unfold zeroP; simp, ⟨Nat.le_refl _, by omega, by omega, by omega, HT.out.lt⟩⟩)
  have HTU : Hid (Below w.heap.size w (w5.alloc (.cells #[.int .i64 r0] 2))) := hide ((HB4.out.trans (HB5.out.mono HB4.out.size)).trans ((Below.refl w5.heap.size w5).alloc (Nat.le_refl _) _ |>.mono (by have := HB4.out.size; have := HB5.out.size; omega)))
  have HRES : Hid ((w5.alloc (.cells #[.int .i64 r0] 2)).heap[w.heap.size + 1]? = some (.cells (rowC fun _ => 0) 76 (0, 0))) := hide ((Below.heap_alloc _ _ _ (by have := lt_of_block HY4.out; have := HB5.out.size; omega)).trans ((HB5.out.block _ (lt_of_block HY4.out)).trans HY4.out))
  obtain ⟨nc, hnc⟩ : ∃ nc, nc = w5.heap.size := ⟨_, rfl⟩
  rw [← hnc] at HDS ⊢
  generalize w5.alloc (.cells #[.int .i64 r0] 2) = w6 at *
  clear x0 x1 x2 HR HB4 HB5 HX4 HY4 HZ4 HAL hnc
  have HDW : Hid (DsW w (w.heap.size + 2) nc nn A c hs ls al zeroP r0 w6) := hide ⟨HDS.out, HTU.out, HRES.out, rfl, HDS.out.lo.2.2.2.1⟩
  clear HDS HTU HRES HT HBY
  go_wp2_with fail
  go_step3
  rw [show w.heap.size + 1 + 1 = w.heap.size + 2 from rfl]
  obtain ⟨bb, hbb⟩ : ∃ bb, bb = w.heap.size + 2 := ⟨_, rfl⟩
  rw [← hbb] at HDW ⊢
  clear hbb
  have HTR := hide (fun p now g (hg : g < 32) d W (h : DsW w bb nc nn A c hs ls al p now W) => try_any w.heap.size bb w.heap.size (w.heap.size + 3) nc nn A c hs ls al hal p now g hg d W h.ds hc hl HLS.out HW.out)
  go_wp2_with fail
  go_loopw [11] (fun sv wr => ∃ (f : Nat) (step : Int) (p : List Int) (now : Int), sv = .int .i64 step ∧ 0 ≤ step ∧ step ≤ maxC ∧ step < 2 ^ f ∧ FIN = stepsD ls al nn f step (p, now) ∧ DsW w bb nc nn A c hs ls al p now wr) (fun sv _ => (intOf sv).toNat)
  case atStart => exact ⟨42, maxC, zeroP, r0, rfl, by decide, Int.le_refl _, by decide, HFIN.out, HDW.out⟩
  case round =>
    clear HDW
    obtain ⟨f, step, p, now, rfl, hs0, hs1, hs2, hF, hdw⟩ := hrel
    have HDW := hide hdw
    have HF := hide hF
    have HS2 := hide hs2
    clear hdw hF hs2
    by_cases hpos : 0 < step
    · have hpos1 : decide (0 < step) = true := decide_eq_true hpos
      obtain ⟨PT, hPT⟩ : ∃ PT, PT = passesD ls al nn step 16 (p, now) := ⟨_, rfl⟩
      have HPT := hide hPT
      clear hPT
      go_wp2_with fail
      obtain ⟨w7, hw7⟩ : ∃ w7, w7 = wr := ⟨_, rfl⟩
      rw [← hw7] at HDW ⊢
      clear hw7
      go_loopw [28] (fun iv wr2 => ∃ (k : Nat) (q : List Int) (m : Int), k ≤ 16 ∧ iv = .int .i64 k ∧ PT = passesD ls al nn step (16 - k) (q, m) ∧ DsW w bb nc nn A c hs ls al q m wr2) (fun iv _ => 16 - (intOf iv).toNat)
      case atStart => exact ⟨0, p, now, by omega, rfl, HPT.out, HDW.out⟩
      case round =>
        clear HDW
        obtain ⟨k, q, m, hk, rfl, hP, hdw⟩ := hrel
        have HDW := hide hdw
        have HP := hide hP
        have HLQ : Hid (q.length = 32) := hide hdw.ds.len
        clear hdw hP
        by_cases hk16 : k < 16
        · have hki : (k : Int) < 16 := by omega
          have HPS : Hid (passesD ls al nn step (16 - k) (q, m) = if (passD ls al step (q, m) nn).1 = q then passD ls al step (q, m) nn else passesD ls al nn step (16 - (k + 1)) (passD ls al step (q, m) nn)) := hide (by
            rw [show 16 - k = (16 - (k + 1)) + 1 by omega]
            rfl)
          go_upto_region 11 with (first
            | (refine wpList_load_row rfl 76 (.tmp 6) rfl bb rfl 76 (rowC (cntP q)) (0, 0) _ HDW.out.ds.brd bUnd rfl (by rw [bInfo, rowC_size]) ?_)
            | (refine wpList_store_row rfl 76 (.tmp 12) (.tmp 30) rfl wr.heap.size (rowC (cntP q)) rfl rfl 76 _ (heap_alloc_new wr _) (by rw [bInfo, rowC_size]) (by rw [rowC_size]; rfl) (rowC_one _) ?_; rw [zeroC, board_alloc]))
          have HBA : Hid (Below wr.heap.size wr (wr.alloc (.cells (rowC (cntP q)) 76))) := hide ((Below.refl _ _).alloc (Nat.le_refl _) _)
          have HBF : Hid ((wr.alloc (.cells (rowC (cntP q)) 76)).heap[wr.heap.size]? = some (.cells (rowC (cntP q)) 76 (0, 0))) := hide (heap_alloc_new wr _)
          obtain ⟨bf, hbf⟩ : ∃ bf, bf = wr.heap.size := ⟨_, rfl⟩
          have HLT : Hid (bb < bf ∧ nc < bf) := hide (by rw [hbf]; exact ⟨lt_of_block HDW.out.ds.brd, lt_of_block HDW.out.ds.now⟩)
          have HDA := hide (HDW.out.below HBA.out)
          rw [← hbf] at HBF ⊢
          generalize wr.alloc (.cells (rowC (cntP q)) 76) = wa at *
          clear hbf HBA HDW
          try simp only [Act.put, List.setIfInBounds_toArray, List.set_cons_zero, List.set_cons_succ]
          have x0 := cell_of_row _ _ 0 _ _ (0, 0) HDA.out.ds.box
          simp only [List.getElem?_toArray, List.getElem?_cons_zero] at x0
          go_wp2_with fail
          clear x0
          go_loopw [33] (fun iv wr3 => ∃ g : Nat, g ≤ nn ∧ iv = .int .i64 g ∧ DsW w bb nc nn A c hs ls al (passD ls al step (q, m) g).1 (passD ls al step (q, m) g).2 wr3 ∧ wr3.heap[bf]? = some (.cells (rowC (cntP q)) 76 (0, 0))) (fun iv _ => nn - (intOf iv).toNat)
          case atStart => exact ⟨0, Nat.zero_le _, rfl, HDA.out, HBF.out⟩
          case round =>
            clear HDA HBF
            obtain ⟨g, hg, rfl, hdw, hbf⟩ := hrel
            have HDW := hide hdw
            have HBF := hide hbf
            clear hdw hbf
            obtain ⟨⟨p1, m1⟩, hpm⟩ : ∃ s, passD ls al step (q, m) g = s := ⟨_, rfl⟩
            rw [hpm] at HDW
            by_cases hgn : g < nn
            · have hgi : (g : Int) < (nn : Int) := by omega
              have hg32 : g < 32 := by omega
              have HNX : Hid (passD ls al step (q, m) (g + 1) = goodD ls al step (p1, m1) g) := hide (by rw [← hpm]; rfl)
              clear hpm
              unfold goodD at HNX
              simp only at HNX HDW
              have HT1 := hide (HTR.out p1 m1 g hg32 step wr HDW.out)
              obtain ⟨⟨b1, p2, m2⟩, ht1⟩ : ∃ t, tryD ls al g step p1 m1 = t := ⟨_, rfl⟩
              rw [ht1] at HT1 HNX
              simp only at HNX
              clear ht1
              unfold TryPost at HT1
              simp only at HT1
              have HYES := hide (fun m W => yes_any g m W)
              have hneg : IntKind.i64.wrap (-step) = -step := Go.IntWalk.i64_in _ (by have h1 : step ≤ 1099511627776 := hs1; omega)
              cases b1
              · simp only [Bool.false_eq_true, if_false] at HNX
                rw [hneg] at HNX
                obtain ⟨⟨b2, p3, m3⟩, ht2⟩ : ∃ t, tryD ls al g (-step) p2 m2 = t := ⟨_, rfl⟩
                rw [ht2] at HNX
                simp only at HNX
                have HTY := hide (fun W (h : DsW w bb nc nn A c hs ls al p2 m2 W) => HTR.out p2 m2 g hg32 (-step) W h)
                rw [ht2] at HTY
                unfold TryPost at HTY
                simp only at HTY
                clear ht2
                cases b2
                · go_wp2_with (first
                    | (go_at_call 54; refine (HT1.out).mono ?_; rintro e w8 ⟨rfl, hd8, ht8⟩; have HDX := hide (HDW.out.turn hd8 ht8); have HBX := hide ((ht8.block _ (lt_of_block HBF.out) (fun e => by have := HLT.out; rcases e with e | e <;> omega)).trans HBF.out); clear hd8 ht8 HT1; have HT2 := hide (HTY.out w8 HDX.out))
                    | (go_at_call 54; refine (HT2.out).mono ?_; rintro e w9 ⟨rfl, hd9, ht9⟩; have HDY := hide (HDX.out.turn hd9 ht9); have HBY := hide ((ht9.block _ (lt_of_block HBX.out) (fun e => by have := HLT.out; rcases e with e | e <;> omega)).trans HBX.out); clear hd9 ht9))
                  go_roundw
                  case rel => exact ⟨g + 1, by omega, by go_num, by rw [HNX.out]; exact HDY.out, HBY.out⟩
                  case measure => simp [intOf]; omega
                · go_wp2_with (first
                    | (go_at_call 54; refine (HT1.out).mono ?_; rintro e w8 ⟨rfl, hd8, ht8⟩; have HDX := hide (HDW.out.turn hd8 ht8); have HBX := hide ((ht8.block _ (lt_of_block HBF.out) (fun e => by have := HLT.out; rcases e with e | e <;> omega)).trans HBF.out); clear hd8 ht8 HT1; have HT2 := hide (HTY.out w8 HDX.out))
                    | (go_at_call 54; refine (HT2.out).mono ?_; rintro e w9 ⟨rfl, hd9, ht9⟩; have HDY := hide (HDX.out.turn hd9 ht9); have HBY := hide ((ht9.block _ (lt_of_block HBX.out) (fun e => by have := HLT.out; rcases e with e | e <;> omega)).trans HBX.out); have n0 := cell_of_row _ _ 0 _ _ (0, 0) hd9.now; simp only [List.getElem?_toArray, List.getElem?_cons_zero] at n0; clear hd9 ht9)
                    | (refine (HYES.out m3 w9).mono ?_; rintro e w10 ⟨rfl, hb10⟩; have HDZ := hide (HDY.out.below hb10); have HBZ := hide ((hb10.block _ (lt_of_block HBY.out)).trans HBY.out); clear hb10))
                  go_roundw
                  case rel => exact ⟨g + 1, by omega, by go_num, by rw [HNX.out]; exact HDZ.out, HBZ.out⟩
                  case measure => simp [intOf]; omega
              · simp only [if_true] at HNX
                go_wp2_with (first
                  | (go_at_call 54; refine (HT1.out).mono ?_; rintro e w8 ⟨rfl, hd8, ht8⟩; have HDX := hide (HDW.out.turn hd8 ht8); have HBX := hide ((ht8.block _ (lt_of_block HBF.out) (fun e => by have := HLT.out; rcases e with e | e <;> omega)).trans HBF.out); have n0 := cell_of_row _ _ 0 _ _ (0, 0) hd8.now; simp only [List.getElem?_toArray, List.getElem?_cons_zero] at n0; clear hd8 ht8)
                  | (refine (HYES.out m2 w8).mono ?_; rintro e w10 ⟨rfl, hb10⟩; have HDZ := hide (HDX.out.below hb10); have HBZ := hide ((hb10.block _ (lt_of_block HBX.out)).trans HBX.out); clear hb10))
                go_roundw
                case rel => exact ⟨g + 1, by omega, by go_num, by rw [HNX.out]; exact HDZ.out, HBZ.out⟩
                case measure => simp [intOf]; omega
            · obtain rfl : g = nn := by omega
              rw [hpm] at HPS
              simp only at HPS HDW
              have hlp := HDW.out.ds.len
              have hlq := HLQ.out
              have hbg := bGuard
              by_cases hpq : p1 = q
              · subst hpq
                rw [if_pos rfl] at HPS
                have heq : ∀ W, (Op.equalIn 10000 76 (.agg (rowC (cntP p1))) (.agg (rowC (cntP p1)))).run Tryd.prog W = .ok true W := fun W => (board_in hlp hlp W).trans (by rw [decide_eq_true rfl])
                have HPQ : Hid (PT = (p1, m1)) := hide (by rw [HP.out, HPS.out])
                clear hpm hlp hlq
                have hq2 : step.tdiv 2 = step / 2 := Int.tdiv_eq_ediv_of_nonneg (by omega)
                obtain ⟨f', hf1, hf2, hf3⟩ := steps_go (ls := ls) (al := al) (n := g) (st := (p, now)) hpos HS2.out
                have HN : Hid (FIN = stepsD ls al g f' (step / 2) (p1, m1) ∧ step / 2 < 2 ^ f') := hide ⟨by rw [HF.out, hf3, ← HPT.out, HPQ.out], hf2⟩
                clear hf1 hf2 hf3
                go_wp2_with (first
                  | (refine wpList_load_row rfl 76 (.tmp 6) rfl bb rfl 76 (rowC (cntP p1)) (0, 0) _ HDW.out.ds.brd bUnd rfl (by rw [bInfo, rowC_size]) ?_)
                  | (refine wpList_load_row rfl 76 (.tmp 12) rfl bf rfl 76 (rowC (cntP p1)) (0, 0) _ HBF.out bUnd rfl (by rw [bInfo, rowC_size]) ?_))
                have h9 : step ≤ 1099511627776 := hs1
                have hwq : wrap64 (step / 2) = step / 2 := by unfold wrap64; omega
                rw [hwq]
                refine ⟨⟨f', step / 2, p1, m1, rfl, by omega, by show step / 2 ≤ 1099511627776; omega, HN.out.2, HN.out.1, HDW.out⟩, ?_⟩
                simp only [intOf]
                omega
              · rw [if_neg hpq] at HPS
                have heq : ∀ W, (Op.equalIn 10000 76 (.agg (rowC (cntP p1))) (.agg (rowC (cntP q)))).run Tryd.prog W = .ok false W := fun W => (board_in hlp hlq W).trans (by rw [decide_eq_false hpq])
                have HPQ : Hid (PT = passesD ls al g step (16 - (k + 1)) (p1, m1)) := hide (by rw [HP.out, HPS.out])
                clear hpm hlp hlq hpq
                go_wp2_with (first
                  | (refine wpList_load_row rfl 76 (.tmp 6) rfl bb rfl 76 (rowC (cntP p1)) (0, 0) _ HDW.out.ds.brd bUnd rfl (by rw [bInfo, rowC_size]) ?_)
                  | (refine wpList_load_row rfl 76 (.tmp 12) rfl bf rfl 76 (rowC (cntP q)) (0, 0) _ HBF.out bUnd rfl (by rw [bInfo, rowC_size]) ?_))
                refine ⟨⟨k + 1, p1, m1, by omega, by go_num, HPQ.out, HDW.out⟩, ?_⟩
                simp only [intOf]
                omega
        · obtain rfl : k = 16 := by omega
          have HPQ : Hid (PT = (q, m)) := hide (by rw [HP.out]; rfl)
          have hq2 : step.tdiv 2 = step / 2 := Int.tdiv_eq_ediv_of_nonneg (by omega)
          obtain ⟨f', hf1, hf2, hf3⟩ := steps_go (ls := ls) (al := al) (n := nn) (st := (p, now)) hpos HS2.out
          have HN : Hid (FIN = stepsD ls al nn f' (step / 2) (q, m) ∧ step / 2 < 2 ^ f') := hide ⟨by rw [HF.out, hf3, ← HPT.out, HPQ.out], hf2⟩
          clear hf1 hf2 hf3
          go_wp2_with fail
          have h9 : step ≤ 1099511627776 := hs1
          have hwq : wrap64 (step / 2) = step / 2 := by unfold wrap64; omega
          rw [hwq]
          refine ⟨⟨f', step / 2, q, m, rfl, by omega, by show step / 2 ≤ 1099511627776; omega, HN.out.2, HN.out.1, HDW.out⟩, ?_⟩
          simp only [intOf]
          omega
    · have hpos1 : decide (0 < step) = false := decide_eq_false hpos
      have HFE : Hid (FIN = (p, now)) := hide (by rw [HF.out, steps_end _ _ _ _ _ _ hpos])
      have hnow := cell_of_row _ _ 0 _ _ (0, 0) HDW.out.ds.now
      simp only [List.getElem?_toArray, List.getElem?_cons_zero] at hnow
      go_upto_region 18 with fail
      have hS0 : wr.drew.heap[bb]? = some (.cells (rowC (cntP p)) 76 (0, 0)) ∧ wr.drew.cell? ⟨nc, 0, none⟩ = some (.int .i64 now) := ⟨HDW.out.ds.brd, hnow⟩
      refine wp_region_U 4 (fun X => X.heap[bb]? = some (.cells (rowC (cntP p)) 76 (0, 0)) ∧ X.cell? ⟨nc, 0, none⟩ = some (.int .i64 now)) rfl hS0 (fun hHeld => ?_)
      refine AnyU.take (i := 0) (v := .agg (rowC (cntP p))) rfl (by kernel_rfl) (by kernel_rfl) (by kernel_rfl) (by kernel_rfl) (fun _ _ _ h => h) (Or.inl ⟨by rfl, ?hy0⟩) hHeld ?r0
      case hy0 =>
        intro X hSX
        exact exec_load_row 76 (.tmp 6) rfl bb rfl 76 (rowC (cntP p)) (0, 0) _ hSX.1 bUnd rfl (by rw [bInfo, rowC_size])
      simp only [Act.put, List.setIfInBounds_toArray, List.set_cons_zero, List.set_cons_succ]
      refine AnyU.take (i := 1) (v := ?v101) rfl (by kernel_rfl) (by kernel_rfl) (by kernel_rfl) (by kernel_rfl) (fun _ _ _ h => h) (Or.inl ⟨by rfl, ?hy101⟩) hHeld ?r101
      case hy101 => (intro w hSw; (try dsimp only at hSw); go_simp <;> with_reducible rfl)
      simp only [Act.put, List.setIfInBounds_toArray, List.set_cons_zero, List.set_cons_succ]
      refine AnyU.next (js := [2]) (by kernel_rfl) (by simp) (NextU.cons rfl (fun K hK => ?_) NextU.nil)
      have hres := HDW.out.res
      rw [if_pos (by rfl)]
      refine wp_store_row 76 (.tmp 4) (.tmp 59) rfl (w.heap.size + 1) (rowC (cntP p)) rfl rfl 76 (rowC fun _ => 0) hres (by rw [bInfo, rowC_size]) (by rw [rowC_size, rowC_size]) (rowC_one _) ?_
      have hl := HDW.out.lt
      have HRS : Hid ((wr.drew.setRow (w.heap.size + 1) (rowC (cntP p))).heap[w.heap.size + 1]? = some (.cells (rowC (cntP p)) 76 (0, 0))) := hide (setRow_heap wr.drew _ _ _ _ _ hres)
      have hS2 : (wr.drew.setRow (w.heap.size + 1) (rowC (cntP p))).heap[bb]? = some (.cells (rowC (cntP p)) 76 (0, 0)) ∧ (wr.drew.setRow (w.heap.size + 1) (rowC (cntP p))).cell? ⟨nc, 0, none⟩ = some (.int .i64 now) :=
        ⟨(setRow_other _ _ _ _ (by omega)).trans hS0.1, (World.cell?_of_block (setRow_other _ _ _ _ (by show nc ≠ _; omega))).trans hS0.2⟩
      have HBL : Hid (Below w.heap.size w (wr.drew.setRow (w.heap.size + 1) (rowC (cntP p)))) := hide (below_setRow HDW.out.bel.drew (Nat.le_succ _) _)
      refine hK.out _ _ (fun _ => hS2) (fun hHeld => ?_)
      replace hHeld := hHeld (by decide)
      try simp only [Act.put, List.setIfInBounds_toArray, List.set_cons_zero, List.set_cons_succ]
      generalize wr.drew.setRow (w.heap.size + 1) (rowC (cntP p)) = wz at *
      refine AnyU.take (i := 3) (v := ?v102) rfl (by kernel_rfl) (by kernel_rfl) (by kernel_rfl) (by kernel_rfl) (fun _ _ _ h => h) (Or.inl ⟨by rfl, ?hy102⟩) hHeld ?r102
      case hy102 => (intro w hSw; (try dsimp only at hSw); go_simp <;> with_reducible rfl)
      simp only [Act.put, List.setIfInBounds_toArray, List.set_cons_zero, List.set_cons_succ]
      clear hHeld hK K
      refine AnyU.over (by kernel_rfl) ?_ _
      go_wp2_with fail
      refine bodyPost_ret (v := .tuple #[.agg (rowC (cntP p)), .int .i64 now]) ?_ rfl ?_
      · have hrun := run_loadVar_row (P := Tryd.prog) wz (w.heap.size + 1) 76 76 (rowC (cntP p)) (0, 0) _ HRS.out bUnd rfl (by rw [bInfo, rowC_size])
        simp [results, Tryd.results43, asAddr, hrun]
      · exact ⟨by rw [HFE.out], HBL.out⟩
end Go.Proofs.YtinkieogcpidkaaDoor
