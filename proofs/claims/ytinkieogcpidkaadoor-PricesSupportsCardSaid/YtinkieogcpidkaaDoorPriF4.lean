/- The walks of the document's Rest, Supports; of prices.Supports. -/
import Derived.Test.YtinkieogcpidkaaDoorPriF3
namespace Go.Proofs.YtinkieogcpidkaaDoor
open Go.RowKit Go.Maps Go.Shelf
open Go.ChangeMaps Go.WideMaps

set_option maxRecDepth 100000 in
set_option maxHeartbeats 4000000 in
theorem refRest_any (n : Int) (A : Option Addr) (c : Nat) (hs : List Hdr) (ls : List (List Offer)) (k : Int) (free : Nat) (hf : free < 4294967296) (P : Option Addr) (pc : Nat) (p : List Int) (w : World)
    (hB : Buys w w.heap.size A hs ls) (hl : ls.length ≤ 1000000) (hls : BLens ls) (hw : BWide ls) (hp : One intV w w.heap.size P p) (hpl : p.length ≤ 1000000) :
    Calls Tryd.prog 14 #[instV n A ls.length c, .int .i64 k, .int .u32 (free : Int), .slice P p.length pc] w (RestPost n ls k free p w) := by
  have HB0 : Hid (Below w.heap.size w (w.alloc (.cells #[.int .i64 n, .slice A ls.length c] 24))) := hide ((Below.refl _ _).alloc (Nat.le_refl _) _)
  have HX0 : Hid ((w.alloc (.cells #[.int .i64 n, .slice A ls.length c] 24)).heap[w.heap.size]? = some (.cells #[.int .i64 n, .slice A ls.length c] 24 (0, 0))) := hide (heap_alloc_new w _)
  have HCK := hide (fun W (hb : Below w.heap.size w W) => refcheck_any n A c hs ls P pc p W (hB.up hb) hl hls hw (hp.up hb) hpl)
  have HRS := hide (fun W (hb : Below w.heap.size w W) (k : Nat) (hk : k ≤ ls.length) => refrest_any n A c hs ls k hk free hf P pc p W (hB.up hb) hl hls hw (hp.up hb) hpl)
  clear hB hp hls hw
  simp only [instV] at *
  go_enter Tryd.func14, Tryd.ntmps14
  go_upto_region 1 with fail
  generalize w.alloc (.cells #[.int .i64 n, .slice A ls.length c] 24) = w0 at *
  have x0 := cell_of_row _ _ 0 _ _ (0, 0) HX0.out
  have x1 := cell_of_row _ _ 1 _ _ (0, 0) HX0.out
  simp only [List.getElem?_toArray, List.getElem?_cons_zero, List.getElem?_cons_succ] at x0 x1
  have HC := hide (HCK.out w0 HB0.out)
  obtain ⟨ie, hie⟩ : ∃ ie, priE n ls p = ie := ⟨_, rfl⟩
  rw [hie] at HC
  have HIE := hide hie
  clear hie
  go_upto_region 2 with (go_at_call 33; refine (HC.out).mono ?_; rintro e w1 ⟨rfl, hb1⟩; have HB1 := hide (HB0.out.trans (hb1.mono HB0.out.size)); have HX1 := hide ((hb1.block _ (lt_of_block HX0.out)).trans HX0.out); clear hb1)
  clear x0 x1 HC HB0 HX0 HCK
  have x0 := cell_of_row _ _ 0 _ _ (0, 0) HX1.out
  have x1 := cell_of_row _ _ 1 _ _ (0, 0) HX1.out
  simp only [List.getElem?_toArray, List.getElem?_cons_zero, List.getElem?_cons_succ] at x0 x1
  by_cases h0 : ie = 0
  case neg =>
    have HE : Hid (restE n ls k free p = (0, ie)) := hide (by unfold restE; rw [HIE.out, if_pos h0])
    have hne : (ie != 0) = true := by simpa using h0
    go_wp2_with fail
    go_ret2
    exact ⟨by rw [HE.out]; rfl, HB1.out⟩
  subst h0
  have hn10 := priE_goods HIE.out
  have hai : allI n = allG n.toNat := by unfold allI; rw [if_neg (by omega)]
  have hal : allG n.toNat < 4294967296 := by
    rw [← hai]
    exact allI_lt n
  have HALL := hide (fun W => all08_any n (by omega) (by omega) W)
  generalize allG n.toNat = al at *
  have HAI := hide hai
  clear hn10 hai
  by_cases h1 : k < 0
  · have e1 : decide (k < 0) = true := decide_eq_true h1
    have HE : Hid (restE n ls k free p = (0, 2)) := hide (by unfold restE; rw [HIE.out, if_neg (by simp), if_pos (.inl h1)])
    go_wp2_with fail
    go_ret2
    exact ⟨by rw [HE.out]; rfl, HB1.out⟩
  have e1 : decide (k < 0) = false := decide_eq_false h1
  by_cases h2 : (ls.length : Int) < k
  · have e2 : decide ((ls.length : Int) < k) = true := decide_eq_true h2
    have HE : Hid (restE n ls k free p = (0, 2)) := hide (by unfold restE; rw [HIE.out, if_neg (by simp), if_pos (.inr (.inl h2))])
    go_wp2_with fail
    go_ret2
    exact ⟨by rw [HE.out]; rfl, HB1.out⟩
  have e2 : decide ((ls.length : Int) < k) = false := decide_eq_false h2
  have hbits := andNot_lessG free al hf hal
  have HWI : Hid (withinB free (allI n) = ((lessG free al : Int) == 0)) := hide (by rw [HAI.out]; exact (u32_beq _).symm)
  generalize (lessG free al : Int) = z at *
  by_cases hz : z = 0
  case neg =>
    have hz1 : (z != 0) = true := by simpa using hz
    have HE : Hid (restE n ls k free p = (0, 2)) := hide (by unfold restE; rw [HIE.out, if_neg (by simp), if_pos (.inr (.inr (by rw [HWI.out]; simpa using hz)))])
    clear hz
    go_wp2_with (go_at_call 24; refine (HALL.out _).mono ?_; rintro e w2 ⟨rfl, rfl⟩)
    go_ret2
    exact ⟨by rw [HE.out]; rfl, HB1.out⟩
  subst hz
  have HE : Hid (restE n ls k free p = (restC (cntP p) free ls k.toNat, 0)) := hide (by
    unfold restE
    rw [HIE.out, if_neg (by simp), if_neg]
    rw [HWI.out]
    simp
    omega)
  obtain ⟨kn, rfl⟩ := Int.eq_ofNat_of_zero_le (show 0 ≤ k by omega)
  rw [Int.toNat_natCast] at HE
  have hkl : kn ≤ ls.length := by omega
  have HR1 := hide (HRS.out w1 HB1.out kn hkl)
  clear h1 h2
  go_wp2_with (first
    | (go_at_call 24; refine (HALL.out _).mono ?_; rintro e w2 ⟨rfl, rfl⟩)
    | (go_at_call 34; refine (HR1.out).mono ?_; rintro e w4 ⟨rfl, hb4⟩; have HB4 := hide (HB1.out.trans (hb4.mono HB1.out.size)); clear hb4))
  go_ret2
  exact ⟨by rw [HE.out]; rfl, HB4.out⟩

theorem sup_none {n : Int} {ls : List (List Offer)} {zs p : List Int} (h : (boundE n ls p).2 ≠ 0) : supE n ls zs p = (false, (boundE n ls p).2) := by unfold supE; rw [if_pos h]
theorem sup_some {n : Int} {ls : List (List Offer)} {zs p : List Int} (h : (boundE n ls p).2 = 0) : supE n ls zs p = (decide (choiceE n ls zs = 0 ∧ choiceC n ls zs = (boundE n ls p).1), choiceE n ls zs) := by unfold supE; rw [if_neg (by rw [h]; simp)]

set_option maxRecDepth 100000 in
set_option maxHeartbeats 4000000 in
theorem supports_any (n : Int) (A : Option Addr) (c : Nat) (hs : List Hdr) (ls : List (List Offer)) (Z : Option Addr) (zc : Nat) (zs : List Int) (P : Option Addr) (pc : Nat) (p : List Int) (w : World) (hT : TabW w)
    (hB : Buys w w.heap.size A hs ls) (hc : ls.length ≤ c) (hl : ls.length ≤ 1000000) (hls : BLens ls) (hw : BWide ls) (hp : One intV w w.heap.size P p) (hpl : p.length ≤ 1000000) (hpz : P = none → pc = 0) (hz : One intV w w.heap.size Z zs) (hzl : zs.length * 8 ≤ 140737488351232) :
    Calls Tryd.prog 18 #[instV n A ls.length c, .slice Z zs.length zc, .slice P p.length pc] w (ValPost (.tuple #[.bool (supE n ls zs p).1, .int .i64 (supE n ls zs p).2]) w) := by
  have HB0 : Hid (Below w.heap.size w (w.alloc (.cells #[.int .i64 n, .slice A ls.length c] 24))) := hide ((Below.refl _ _).alloc (Nat.le_refl _) _)
  have HX0 : Hid ((w.alloc (.cells #[.int .i64 n, .slice A ls.length c] 24)).heap[w.heap.size]? = some (.cells #[.int .i64 n, .slice A ls.length c] 24 (0, 0))) := hide (heap_alloc_new w _)
  have HBD := hide (fun W (hb : Below w.heap.size w W) => boundP_any n A c hs ls P pc p W (hT.below hb) (hB.up hb) hc hl hls hw (hp.up hb) hpl hpz)
  have HCH := hide (fun W (hb : Below w.heap.size w W) => choice_any n A c hs ls Z zc zs W (hB.up hb) hl hls hw (hz.up hb) hzl (hT.below hb))
  obtain ⟨⟨b1, b2⟩, hb⟩ : ∃ r, boundE n ls p = r := ⟨_, rfl⟩
  obtain ⟨cC, hcC⟩ : ∃ r, choiceC n ls zs = r := ⟨_, rfl⟩
  obtain ⟨cE, hcE⟩ : ∃ r, choiceE n ls zs = r := ⟨_, rfl⟩
  have HN : Hid (b2 ≠ 0 → supE n ls zs p = (false, b2)) := hide (fun h => by rw [sup_none (by rw [hb]; exact h), hb])
  have HS : Hid (b2 = 0 → supE n ls zs p = (decide (cE = 0 ∧ cC = b1), cE)) := hide (fun h => by rw [sup_some (by rw [hb]; exact h), hb, hcC, hcE])
  rw [hb] at HBD
  rw [hcC, hcE] at HCH
  clear hB hp hT hls hw hz hb hcC hcE
  simp only [instV] at *
  go_enter Tryd.func18, Tryd.ntmps18
  go_upto_region 1 with fail
  generalize w.alloc (.cells #[.int .i64 n, .slice A ls.length c] 24) = w0 at *
  have x0 := cell_of_row _ _ 0 _ _ (0, 0) HX0.out
  have x1 := cell_of_row _ _ 1 _ _ (0, 0) HX0.out
  simp only [List.getElem?_toArray, List.getElem?_cons_zero, List.getElem?_cons_succ] at x0 x1
  have HC := hide (HBD.out w0 HB0.out)
  go_upto_region 2 with (go_at_call 11; refine (HC.out).mono ?_; rintro e w1 ⟨rfl, hb1⟩; have HB1 := hide (HB0.out.trans (hb1.mono HB0.out.size)); have HX1 := hide ((hb1.block _ (lt_of_block HX0.out)).trans HX0.out); clear hb1)
  clear x0 x1 HC HB0 HX0 HBD
  have x0 := cell_of_row _ _ 0 _ _ (0, 0) HX1.out
  have x1 := cell_of_row _ _ 1 _ _ (0, 0) HX1.out
  simp only [List.getElem?_toArray, List.getElem?_cons_zero, List.getElem?_cons_succ] at x0 x1
  by_cases h0 : b2 = 0
  case neg =>
    have HE := hide (HN.out h0)
    have hne : (b2 != 0) = true := by simpa using h0
    go_wp2_with fail
    go_ret2
    exact ⟨by rw [HE.out]; rfl, HB1.out⟩
  have HE := hide (HS.out h0)
  subst h0
  have HC := hide (HCH.out w1 HB1.out)
  clear HN HS HCH
  go_upto_region 5 with (go_at_call 40; refine (HC.out).mono ?_; rintro e w2 ⟨rfl, hb2⟩; have HB2 := hide (HB1.out.trans (hb2.mono HB1.out.size)); clear hb2)
  clear x0 x1 HC
  by_cases h1 : cE = 0
  · subst h1
    have e1 : ((0 : Int) == 0) = true := rfl
    have HF : Hid (supE n ls zs p = ((cC == b1), 0)) := hide (by rw [HE.out]; congr 1; rw [Bool.eq_iff_iff, decide_eq_true_eq, beq_iff_eq]; simp)
    go_wp2_with fail
    go_ret2
    exact ⟨by rw [HF.out]; rfl, HB2.out⟩
  · have e1 : (cE == 0) = false := by simpa using h1
    have HF : Hid (supE n ls zs p = (false, cE)) := hide (by rw [HE.out]; congr 1; simp [h1])
    go_wp2_with fail
    go_ret2
    exact ⟨by rw [HF.out]; rfl, HB2.out⟩

set_option maxRecDepth 100000 in
set_option maxHeartbeats 4000000 in
theorem refsupports_any (n : Int) (A : Option Addr) (c : Nat) (hs : List Hdr) (ls : List (List Offer)) (Z : Option Addr) (zc : Nat) (zs : List Int) (P : Option Addr) (pc : Nat) (p : List Int) (w : World)
    (hB : Buys w w.heap.size A hs ls) (hl : ls.length ≤ 1000000) (hls : BLens ls) (hw : BWide ls) (hp : One intV w w.heap.size P p) (hpl : p.length ≤ 1000000) (hz : One intV w w.heap.size Z zs) (hzl : zs.length * 8 ≤ 140737488351232) :
    Calls Tryd.prog 19 #[instV n A ls.length c, .slice Z zs.length zc, .slice P p.length pc] w (ValPost (.tuple #[.bool (supE n ls zs p).1, .int .i64 (supE n ls zs p).2]) w) := by
  have HB0 : Hid (Below w.heap.size w (w.alloc (.cells #[.int .i64 n, .slice A ls.length c] 24))) := hide ((Below.refl _ _).alloc (Nat.le_refl _) _)
  have HX0 : Hid ((w.alloc (.cells #[.int .i64 n, .slice A ls.length c] 24)).heap[w.heap.size]? = some (.cells #[.int .i64 n, .slice A ls.length c] 24 (0, 0))) := hide (heap_alloc_new w _)
  have HBD := hide (fun W (hb : Below w.heap.size w W) => refBound_any n A c hs ls P pc p W (hB.up hb) hl hls hw (hp.up hb) hpl)
  have HCH := hide (fun W (hb : Below w.heap.size w W) => refchoice_any n A c hs ls Z zc zs W (hB.up hb) hl hls hw (hz.up hb) hzl)
  obtain ⟨⟨b1, b2⟩, hb⟩ : ∃ r, boundE n ls p = r := ⟨_, rfl⟩
  obtain ⟨cC, hcC⟩ : ∃ r, choiceC n ls zs = r := ⟨_, rfl⟩
  obtain ⟨cE, hcE⟩ : ∃ r, choiceE n ls zs = r := ⟨_, rfl⟩
  have HN : Hid (b2 ≠ 0 → supE n ls zs p = (false, b2)) := hide (fun h => by rw [sup_none (by rw [hb]; exact h), hb])
  have HS : Hid (b2 = 0 → supE n ls zs p = (decide (cE = 0 ∧ cC = b1), cE)) := hide (fun h => by rw [sup_some (by rw [hb]; exact h), hb, hcC, hcE])
  rw [hb] at HBD
  rw [hcC, hcE] at HCH
  clear hB hp hls hw hz hb hcC hcE
  simp only [instV] at *
  go_enter Tryd.func19, Tryd.ntmps19
  go_upto_region 1 with fail
  generalize w.alloc (.cells #[.int .i64 n, .slice A ls.length c] 24) = w0 at *
  have x0 := cell_of_row _ _ 0 _ _ (0, 0) HX0.out
  have x1 := cell_of_row _ _ 1 _ _ (0, 0) HX0.out
  simp only [List.getElem?_toArray, List.getElem?_cons_zero, List.getElem?_cons_succ] at x0 x1
  have HC := hide (HBD.out w0 HB0.out)
  go_upto_region 2 with (go_at_call 12; refine (HC.out).mono ?_; rintro e w1 ⟨rfl, hb1⟩; have HB1 := hide (HB0.out.trans (hb1.mono HB0.out.size)); have HX1 := hide ((hb1.block _ (lt_of_block HX0.out)).trans HX0.out); clear hb1)
  clear x0 x1 HC HB0 HX0 HBD
  have x0 := cell_of_row _ _ 0 _ _ (0, 0) HX1.out
  have x1 := cell_of_row _ _ 1 _ _ (0, 0) HX1.out
  simp only [List.getElem?_toArray, List.getElem?_cons_zero, List.getElem?_cons_succ] at x0 x1
  by_cases h0 : b2 = 0
  case neg =>
    have HE := hide (HN.out h0)
    have hne : (b2 != 0) = true := by simpa using h0
    go_wp2_with fail
    go_ret2
    exact ⟨by rw [HE.out]; rfl, HB1.out⟩
  have HE := hide (HS.out h0)
  subst h0
  have HC := hide (HCH.out w1 HB1.out)
  clear HN HS HCH
  go_upto_region 5 with (go_at_call 23; refine (HC.out).mono ?_; rintro e w2 ⟨rfl, hb2⟩; have HB2 := hide (HB1.out.trans (hb2.mono HB1.out.size)); clear hb2)
  clear x0 x1 HC
  by_cases h1 : cE = 0
  · subst h1
    have e1 : ((0 : Int) != 0) = false := rfl
    have HF : Hid (supE n ls zs p = ((cC == b1), 0)) := hide (by rw [HE.out]; congr 1; rw [Bool.eq_iff_iff, decide_eq_true_eq, beq_iff_eq]; simp)
    go_wp2_with fail
    go_ret2
    exact ⟨by rw [HF.out]; rfl, HB2.out⟩
  · have e1 : (cE != 0) = true := by simpa using h1
    have HF : Hid (supE n ls zs p = (false, cE)) := hide (by rw [HE.out]; congr 1; simp [h1])
    go_wp2_with fail
    go_ret2
    exact ⟨by rw [HF.out]; rfl, HB2.out⟩
end Go.Proofs.YtinkieogcpidkaaDoor
