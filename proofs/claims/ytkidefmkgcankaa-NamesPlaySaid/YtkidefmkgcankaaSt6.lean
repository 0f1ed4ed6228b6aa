/- The walk of a step that puts a table aside. -/
import Derived.Test.YtkidefmkgcankaaStp
import Derived.Sort.CutIn
namespace Go.Proofs.Ytkidefmkgcankaa
open Go.RowKit Go.Maps Go.Shelf
open Go.ChangeMaps Go.WideMaps

set_option maxRecDepth 100000 in
set_option maxHeartbeats 8000000 in
theorem step6f {B M wp : Nat} {X : Bool → Pr} {os : List Pr} {vo vw : Value} {w : World} (h : StW B M wp X os vo vw w) (hos : os.length ≤ 10) (hB : B ≤ w.heap.size) (on : Int) (s : ByteArray) (n : Int) (hs : s.size ≤ maxLen) {b : Bool} {kb : Nat} (ho : OnW on b kb) (hfull : os.length = 10) :
    Calls Try.prog 14 #[.pointer (some ⟨wp, 0, none⟩), opS 6 on s n] w (StepP B M wp w) := by
  have HB1 : Hid (Below w.heap.size w (w.alloc (.cells #[.int .i64 6, .int .i64 on, .string s, .int .i64 n] 46))) := hide ((Below.refl _ _).alloc (Nat.le_refl _) _)
  have HX1 := hide (heap_alloc_new w (.cells #[.int .i64 6, .int .i64 on, .string s, .int .i64 n] 46))
  have HS1 := hide (h.below HB1.out)
  have HO := hide ho
  have HLT : Hid (∀ i, (X b).All i → i < w.heap.size) := hide (h.prs.cur b).lt
  have HOS := hide hos
  have HBW := hide hB
  have HSZ := hide hs
  obtain ⟨cT, cR⟩ := ho.cells HS1.out.rows
  obtain ⟨a, c, hr1, hr2, hr3⟩ := ho.rem
  have hk0 : (0 : Int) ≤ (kb : Int) := by omega
  have hk1 : (kb : Int) < 2 := by have := ho.lt; omega
  have hk2 : kb < 2 := ho.lt
  simp only [ptrV] at cT cR
  have p0 := cell_of_row _ _ 0 _ _ (0, 0) HX1.out
  have p1 := cell_of_row _ _ 1 _ _ (0, 0) HX1.out
  have p2 := cell_of_row _ _ 2 _ _ (0, 0) HX1.out
  have p3 := cell_of_row _ _ 3 _ _ (0, 0) HX1.out
  simp only [List.getElem?_toArray, List.getElem?_cons_zero, List.getElem?_cons_succ] at p0 p1 p2 p3
  clear h ho hos hB hs
  simp only [opS]
  go_enter Try.func14, Try.ntmps14
  go_upto_region 2 with fail
  generalize w.alloc (.cells #[.int .i64 6, .int .i64 on, .string s, .int .i64 n] 46) = w1 at *
  go_quiet (fail)
  have HS2 := hide (HS1.out.below (bel_drewN (Below.refl _ _) nq))
  have HB2 : Hid (Below w.heap.size w (w1.drewN nq)) := hide (bel_drewN HB1.out nq)
  have HX2 : Hid ((w1.drewN nq).heap[w.heap.size]? = some (.cells #[.int .i64 6, .int .i64 on, .string s, .int .i64 n] 46 (0, 0))) := hide HX1.out
  clear cT cR p0 p1 p2 p3 HS1 HB1 HX1 hr1 hr2 hr3
  generalize w1.drewN nq = w2 at *
  have p0 := cell_of_row w2 _ 0 _ _ (0, 0) HX2.out
  have p1 := cell_of_row w2 _ 1 _ _ (0, 0) HX2.out
  have p2 := cell_of_row w2 _ 2 _ _ (0, 0) HX2.out
  have p3 := cell_of_row w2 _ 3 _ _ (0, 0) HX2.out
  simp only [List.getElem?_toArray, List.getElem?_cons_zero, List.getElem?_cons_succ] at p0 p1 p2 p3
  have HBW2 : Hid (B ≤ w2.heap.size) := hide (Nat.le_trans HBW.out HB2.out.size)

  have HF := hide hfull
  clear hfull
  obtain ⟨A4, c4, hvo⟩ := own_shape HS2.out.rows.ro
  rw [List.length_map] at hvo
  subst hvo
  have w4 : w2.cell? ⟨wp, 4, none⟩ = some (.slice A4 os.length c4) := cell_of_row w2 wp 4 _ _ (0, 0) HS2.out.rows.blk
  have hl10 : ¬ (os.length : Int) < 10 := by have := HF.out; omega
  have HSd := hide (HS2.out.below ((Below.refl _ w2).drew))
  have HXd := hide (HSd.out.prs.cur b)
  have HCP := hide (copy_any HXd.out.ca)
  go_wp2_with fail
  refine wp_region_U 8 (fun _ => True) (by kernel_rfl) trivial (fun hHeld => ?_)
  refine AnyU.take (i := 0) (v := ?v601) rfl (by kernel_rfl) (by kernel_rfl) (by kernel_rfl) (by kernel_rfl) (fun _ _ _ h => h) (Or.inl ⟨by rfl, ?hy601⟩) hHeld ?r601
  case hy601 => (intro w hSw; (try dsimp only at hSw); go_simp <;> with_reducible rfl)
  simp only [Act.put, List.setIfInBounds_toArray, List.set_cons_zero, List.set_cons_succ]
  refine AnyU.take (i := 1) (v := ?v602) rfl (by kernel_rfl) (by kernel_rfl) (by kernel_rfl) (by kernel_rfl) (fun _ _ _ h => h) (Or.inl ⟨by rfl, ?hy602⟩) hHeld ?r602
  case hy602 => (intro w hSw; (try dsimp only at hSw); go_simp <;> with_reducible rfl)
  simp only [Act.put, List.setIfInBounds_toArray, List.set_cons_zero, List.set_cons_succ]
  refine AnyU.take (i := 2) (v := ?v603) rfl (by kernel_rfl) (by kernel_rfl) (by kernel_rfl) (by kernel_rfl) (fun _ _ _ h => h) (Or.inl ⟨by rfl, ?hy603⟩) hHeld ?r603
  case hy603 => (intro w hSw; (try dsimp only at hSw); go_simp <;> with_reducible rfl)
  simp only [Act.put, List.setIfInBounds_toArray, List.set_cons_zero, List.set_cons_succ]
  refine AnyU.take (i := 4) (v := ?v604) rfl (by kernel_rfl) (by kernel_rfl) (by kernel_rfl) (by kernel_rfl) (fun _ _ _ h => h) (Or.inl ⟨by rfl, ?hy604⟩) hHeld ?r604
  case hy604 => (intro w hSw; (try dsimp only at hSw); go_simp <;> with_reducible rfl)
  simp only [Act.put, List.setIfInBounds_toArray, List.set_cons_zero, List.set_cons_succ]
  refine AnyU.take (i := 5) (v := ?v605) rfl (by kernel_rfl) (by kernel_rfl) (by kernel_rfl) (by kernel_rfl) (fun _ _ _ h => h) (Or.inl ⟨by rfl, ?hy605⟩) hHeld ?r605
  case hy605 => (intro w hSw; (try dsimp only at hSw); go_simp <;> with_reducible rfl)
  simp only [Act.put, List.setIfInBounds_toArray, List.set_cons_zero, List.set_cons_succ]
  clear hHeld
  refine AnyU.next (js := [3]) (by kernel_rfl) (by simp) (NextU.cons rfl (fun K hK => ?_) NextU.nil)
  go_simp
  refine (HCP.out).mono ?_
  rintro _ W3 ⟨p', v', m', rfl, hc', hb'⟩
  have HC' := hide hc'
  have HB' := hide hb'
  have HFIN := hide (HSd.out.copied HO.out.lt HO.out.is hb' hc' (show B ≤ w2.drew.heap.size from HBW2.out))
  have HB3 : Hid (Below B w (W3.setCell ⟨wp, kb, none⟩ (.pointer (some ⟨p', 0, none⟩)))) := hide (((HB2.out.mono HBW.out).trans ((((Below.refl _ w2).drew).trans hb').mono HBW2.out)).setCell (show B ≤ wp from HS2.out.rows.base) _)
  have g1 := (HO.out.cells (HSd.out.rows.below hb')).1
  have g2 := frozen_of_row W3 wp kb _ _ (HSd.out.rows.below hb').blk
  simp only [ptrV] at g1
  clear hc' hb'
  refine hK.out _ _ (fun _ => trivial) (fun hHeld => ?_)
  try simp only [Act.put, List.setIfInBounds_toArray, List.set_cons_zero, List.set_cons_succ]
  clear hK K
  have hHeld := hHeld (by decide)
  refine AnyU.take (i := 6) (v := ?v606) rfl (by kernel_rfl) (by kernel_rfl) (by kernel_rfl) (by kernel_rfl) (fun _ _ _ h => h) (Or.inl ⟨by rfl, ?hy606⟩) hHeld ?r606
  case hy606 => (intro w hSw; (try dsimp only at hSw); go_simp <;> with_reducible rfl)
  simp only [Act.put, List.setIfInBounds_toArray, List.set_cons_zero, List.set_cons_succ]
  clear hHeld
  refine AnyU.next (js := [7]) (by kernel_rfl) (by simp) (NextU.cons rfl (fun K hK => ?_) NextU.nil)
  go_simp
  refine hK.out _ _ (fun _ => trivial) (fun hHeld => ?_)
  try simp only [Act.put, List.setIfInBounds_toArray, List.set_cons_zero, List.set_cons_succ]
  clear hK K hHeld
  refine AnyU.over (by kernel_rfl) ?_ _
  have y1 : (W3.setCell ⟨wp, kb, none⟩ (.pointer (some ⟨p', 0, none⟩))).cell? ⟨wp, kb, none⟩ = some (.pointer (some ⟨p', 0, none⟩)) := World.cell?_setCell_same' W3 ⟨wp, kb, none⟩ _ (by rw [g1]; rfl)
  have HS9 := hide (HFIN.out.more (Nat.le_succ M))
  clear g1 g2
  generalize hW9 : W3.setCell ⟨wp, kb, none⟩ (.pointer (some ⟨p', 0, none⟩)) = W9 at *
  have HS10 : Hid (StW B (M + 1) wp (updX X b ⟨p', m', (X b).q, v', (X b).vd, (X b).l, (X b).most⟩) os (.slice A4 os.length c4) vw W9) := hide (by rw [← hW9]; exact HS9.out)
  have HOLD : Hid (NT W9 B (X b).p (X b).v (X b).m (X b).l (X b).most) := hide (by
    rw [← hW9]
    exact (HXd.out.ca.below HB'.out).only (T := fun i => i = wp) (Only.set (S := fun i => i = wp) (Only.refl _ W3) ⟨wp, kb, none⟩ rfl _) (fun k hk e => (HSd.out.own wp (.inl rfl)).1 b (.inl (.inl (e ▸ hk)))))
  clear hW9
  have HNEW : Hid (NT W9 B p' v' m' (X b).l (X b).most) := hide (by have := (HS10.out.prs.cur b).ca; rw [updX_same] at this; exact this)
  have HSM : Hid (Calls Try.prog 16 #[.pointer (some ⟨(X b).p, 0, none⟩), .pointer (some ⟨p', 0, none⟩)] W9 (SameP (.bool true) W9)) := hide (by
    have := same_any HOLD.out HNEW.out
    rwa [decide_eq_true rfl] at this)
  go_wp2_with fail
  refine (HSM.out).mono ?_
  rintro _ _ ⟨rfl, rfl⟩
  go_wp2_with fail
  go_ret
  exact ⟨rfl, _, os, _, vw, HS10.out, HOS.out, HB3.out⟩

set_option maxRecDepth 100000 in
set_option maxHeartbeats 8000000 in
theorem step6 {B M wp : Nat} {X : Bool → Pr} {os : List Pr} {vo vw : Value} {w : World} (h : StW B M wp X os vo vw w) (hos : os.length ≤ 10) (hB : B ≤ w.heap.size) (on : Int) (s : ByteArray) (n : Int) (hs : s.size ≤ maxLen) {b : Bool} {kb : Nat} (ho : OnW on b kb) (hroom : os.length < 10) :
    Calls Try.prog 14 #[.pointer (some ⟨wp, 0, none⟩), opS 6 on s n] w (StepP B M wp w) := by
  have HB1 : Hid (Below w.heap.size w (w.alloc (.cells #[.int .i64 6, .int .i64 on, .string s, .int .i64 n] 46))) := hide ((Below.refl _ _).alloc (Nat.le_refl _) _)
  have HX1 := hide (heap_alloc_new w (.cells #[.int .i64 6, .int .i64 on, .string s, .int .i64 n] 46))
  have HS1 := hide (h.below HB1.out)
  have HO := hide ho
  have HLT : Hid (∀ i, (X b).All i → i < w.heap.size) := hide (h.prs.cur b).lt
  have HOS := hide hos
  have HBW := hide hB
  have HSZ := hide hs
  obtain ⟨cT, cR⟩ := ho.cells HS1.out.rows
  obtain ⟨a, c, hr1, hr2, hr3⟩ := ho.rem
  have hk0 : (0 : Int) ≤ (kb : Int) := by omega
  have hk1 : (kb : Int) < 2 := by have := ho.lt; omega
  have hk2 : kb < 2 := ho.lt
  simp only [ptrV] at cT cR
  have p0 := cell_of_row _ _ 0 _ _ (0, 0) HX1.out
  have p1 := cell_of_row _ _ 1 _ _ (0, 0) HX1.out
  have p2 := cell_of_row _ _ 2 _ _ (0, 0) HX1.out
  have p3 := cell_of_row _ _ 3 _ _ (0, 0) HX1.out
  simp only [List.getElem?_toArray, List.getElem?_cons_zero, List.getElem?_cons_succ] at p0 p1 p2 p3
  clear h ho hos hB hs
  simp only [opS]
  go_enter Try.func14, Try.ntmps14
  go_upto_region 2 with fail
  generalize w.alloc (.cells #[.int .i64 6, .int .i64 on, .string s, .int .i64 n] 46) = w1 at *
  go_quiet (fail)
  have HS2 := hide (HS1.out.below (bel_drewN (Below.refl _ _) nq))
  have HB2 : Hid (Below w.heap.size w (w1.drewN nq)) := hide (bel_drewN HB1.out nq)
  have HX2 : Hid ((w1.drewN nq).heap[w.heap.size]? = some (.cells #[.int .i64 6, .int .i64 on, .string s, .int .i64 n] 46 (0, 0))) := hide HX1.out
  clear cT cR p0 p1 p2 p3 HS1 HB1 HX1 hr1 hr2 hr3
  generalize w1.drewN nq = w2 at *
  have p0 := cell_of_row w2 _ 0 _ _ (0, 0) HX2.out
  have p1 := cell_of_row w2 _ 1 _ _ (0, 0) HX2.out
  have p2 := cell_of_row w2 _ 2 _ _ (0, 0) HX2.out
  have p3 := cell_of_row w2 _ 3 _ _ (0, 0) HX2.out
  simp only [List.getElem?_toArray, List.getElem?_cons_zero, List.getElem?_cons_succ] at p0 p1 p2 p3
  have HBW2 : Hid (B ≤ w2.heap.size) := hide (Nat.le_trans HBW.out HB2.out.size)

  have HF := hide hroom
  clear hroom
  obtain ⟨A4, c4, hvo⟩ := own_shape HS2.out.rows.ro
  rw [List.length_map] at hvo
  subst hvo
  obtain ⟨A5, c5, hvw⟩ := own_shape HS2.out.rows.rq
  rw [List.length_map] at hvw
  subst hvw
  have hro := HS2.out.rows.ro
  rw [List.length_map] at hro
  have w4 : w2.cell? ⟨wp, 4, none⟩ = some (.slice A4 os.length c4) := cell_of_row w2 wp 4 _ _ (0, 0) HS2.out.rows.blk
  have hl10 : (os.length : Int) < 10 := by have := HF.out; omega
  have HPN := hide (ptr_new w2 (X b).p 32)
  have HRO := hide (own_below hro HPN.out.1 (Nat.le_refl _))
  have HRW := hide (HS2.out.rows.below HPN.out.1)
  have G1 : Hid (∀ u ∈ [ptrV (X b).p], u.oneCell' = true) := hide (ptr_one _)
  have G2 : Hid (os.length + 1 ≤ maxLen) := hide (by unfold maxLen; have := HF.out; omega)
  have G3 : Hid ((os.length + 1) * 8 ≤ 140737488355328) := hide (by have := HF.out; omega)
  have G4 : Hid (B ≤ (w2.alloc (.cells #[ptrV (X b).p] 32)).heap.size) := hide (Nat.le_trans HBW2.out HPN.out.1.size)
  clear hro
  go_upto_region 25 with (at_builtin; refine wpList_append_any rfl (.tmp 197) (.tmp 199) 36 rfl B 32 (.pointer none) 1 8 infoPN Try.underlying36 rfl (by decide) _ os.length (os.map fun Y => ptrV Y.p) rfl (by have h := HRO.out; rw [List.map_map] at h; exact h) (w2.alloc (.cells #[ptrV (X b).p] 32)).heap.size (some ⟨w2.heap.size, 0, none⟩) 1 1 [ptrV (X b).p] rfl HPN.out.2 G1.out G2.out G3.out G4.out ?_; intro v4 W3 hown hg hat; have HQ := hide (HRW.out.push_o (v' := v4) (W2 := W3) (p := (X b).p) (by rw [List.length_map, List.map_map]; exact hown) hg hat); obtain ⟨A6, c6, rfl⟩ := own_shape hown; have hk3 := HQ.out.1; have g4 := cell_of_row W3 wp 4 _ _ (0, 0) hk3; have f4 := frozen_of_row W3 wp 4 _ _ hk3; simp only [List.getElem?_toArray, List.getElem?_cons_zero, List.getElem?_cons_succ] at g4; clear hown hg hat hk3)
  clear w4 g4 f4 p0 p1 p2 p3 HRO HRW
  have HR4 : Hid (RowsW B wp (X false).p (X true).p (X false).q (X true).q (os.map Pr.p ++ [(X b).p]) (os.map Pr.q) (.slice A6 (os.length + 1) c6) (.slice A5 os.length c5) (W3.setCell ⟨wp, 4, none⟩ (.slice A6 (os.length + 1) c6))) := hide HQ.out.2.1
  have HP4 : Hid (PrsW B M X os (W3.setCell ⟨wp, 4, none⟩ (.slice A6 (os.length + 1) c6))) := hide ((HS2.out.prs.below HPN.out.1).only HQ.out.2.2.1 (fun k hk => HS2.out.own k hk))
  have HW4 : Hid (∀ k, OwW wp (.slice A6 (os.length + 1) c6) (.slice A5 os.length c5) k → (∀ c, ¬ (X c).All k) ∧ (∀ Y ∈ os, ¬ Y.All k) ∧ k < (W3.setCell ⟨wp, 4, none⟩ (.slice A6 (os.length + 1) c6)).heap.size) := hide (fun k hk => by
    refine ⟨?_, ?_, (HR4.out.lt k hk).2⟩
    · rcases HQ.out.2.2.2 k hk with e | e
      · exact (HS2.out.own k e).1
      · intro c hA
        have := (HS2.out.prs.cur c).lt k hA
        have := HPN.out.1.size
        omega
    · rcases HQ.out.2.2.2 k hk with e | e
      · exact (HS2.out.own k e).2
      · intro Y hY hA
        have := (HS2.out.prs.old Y hY).lt k hA
        have := HPN.out.1.size
        omega)
  have HB4 : Hid (Below B w (W3.setCell ⟨wp, 4, none⟩ (.slice A6 (os.length + 1) c6))) := hide ((HB2.out.mono HBW.out).trans ((HPN.out.1.mono HBW2.out).trans (HQ.out.2.2.1.below G4.out (fun k hk => (HS2.out.rows.lt k hk).1))))
  have HBW4 : Hid (B ≤ (W3.setCell ⟨wp, 4, none⟩ (.slice A6 (os.length + 1) c6)).heap.size) := hide (Nat.le_trans G4.out HQ.out.2.2.1.size)
  clear HQ HPN
  generalize W3.setCell ⟨wp, 4, none⟩ (.slice A6 (os.length + 1) c6) = W4 at *
  have HX4 := hide (HP4.out.cur b)
  have HDC := hide (docCopy_any (HX4.out.da.below ((Below.refl _ W4).drew)) (show B ≤ W4.drew.heap.size from HBW4.out))
  have w5 : W4.cell? ⟨wp, 5, none⟩ = some (.slice A5 os.length c5) := cell_of_row W4 wp 5 _ _ (0, 0) HR4.out.blk
  obtain ⟨P, hP⟩ : ∃ P : World → Prop, P = fun W => W.cell? ⟨wp, 5, none⟩ = some (.slice A5 os.length c5) := ⟨_, rfl⟩
  have hP0 : P W4.drew := by rw [hP]; exact w5
  have HPW : Hid (∀ W, W.cell? ⟨wp, 5, none⟩ = some (.slice A5 os.length c5) → P W) := hide (fun W hW => by rw [hP]; exact hW)
  have HW5 := hide w5
  clear w5
  refine wp_region_U 11 P (by kernel_rfl) hP0 (fun hHeld => ?_)
  refine AnyU.take (i := 0) (v := ?v701) rfl (by kernel_rfl) (by kernel_rfl) (by kernel_rfl) (by kernel_rfl) (fun _ _ _ h => h) (Or.inl ⟨by rfl, ?hy701⟩) hHeld ?r701
  case hy701 => (intro w hSw; (try dsimp only at hSw); rw [hP] at hSw; go_simp <;> with_reducible rfl)
  simp only [Act.put, List.setIfInBounds_toArray, List.set_cons_zero, List.set_cons_succ]
  refine AnyU.take (i := 1) (v := ?v702) rfl (by kernel_rfl) (by kernel_rfl) (by kernel_rfl) (by kernel_rfl) (fun _ _ _ h => h) (Or.inl ⟨by rfl, ?hy702⟩) hHeld ?r702
  case hy702 => (intro w hSw; (try dsimp only at hSw); rw [hP] at hSw; go_simp <;> with_reducible rfl)
  simp only [Act.put, List.setIfInBounds_toArray, List.set_cons_zero, List.set_cons_succ]
  refine AnyU.take (i := 2) (v := ?v703) rfl (by kernel_rfl) (by kernel_rfl) (by kernel_rfl) (by kernel_rfl) (fun _ _ _ h => h) (Or.inl ⟨by rfl, ?hy703⟩) hHeld ?r703
  case hy703 => (intro w hSw; (try dsimp only at hSw); rw [hP] at hSw; go_simp <;> with_reducible rfl)
  simp only [Act.put, List.setIfInBounds_toArray, List.set_cons_zero, List.set_cons_succ]
  refine AnyU.take (i := 3) (v := ?v704) rfl (by kernel_rfl) (by kernel_rfl) (by kernel_rfl) (by kernel_rfl) (fun _ _ _ h => h) (Or.inl ⟨by rfl, ?hy704⟩) hHeld ?r704
  case hy704 => (intro w hSw; (try dsimp only at hSw); rw [hP] at hSw; go_simp <;> with_reducible rfl)
  simp only [Act.put, List.setIfInBounds_toArray, List.set_cons_zero, List.set_cons_succ]
  refine AnyU.take (i := 4) (v := ?v705) rfl (by kernel_rfl) (by kernel_rfl) (by kernel_rfl) (by kernel_rfl) (fun _ _ _ h => h) (Or.inl ⟨by rfl, ?hy705⟩) hHeld ?r705
  case hy705 => (intro w hSw; (try dsimp only at hSw); rw [hP] at hSw; go_simp <;> with_reducible rfl)
  simp only [Act.put, List.setIfInBounds_toArray, List.set_cons_zero, List.set_cons_succ]
  refine AnyU.take (i := 5) (v := ?v706) rfl (by kernel_rfl) (by kernel_rfl) (by kernel_rfl) (by kernel_rfl) (fun _ _ _ h => h) (Or.inl ⟨by rfl, ?hy706⟩) hHeld ?r706
  case hy706 => (intro w hSw; (try dsimp only at hSw); rw [hP] at hSw; go_simp <;> with_reducible rfl)
  simp only [Act.put, List.setIfInBounds_toArray, List.set_cons_zero, List.set_cons_succ]
  clear hHeld
  refine AnyU.next (js := [6]) (by kernel_rfl) (by simp) (NextU.cons rfl (fun K hK => ?_) NextU.nil)
  go_simp
  refine (HDC.out).mono ?_
  rintro _ W5 ⟨q', rfl, hd5, hb5, hq5⟩
  have HB5 : Hid (Below W4.heap.size W4 W5) := hide (((Below.refl _ W4).drew).trans hb5)
  have HD5 := hide hd5
  have HQ5 : Hid (W4.heap.size ≤ q') := hide hq5
  have HP5 := hide (HPW.out W5 ((HB5.out.cell (lt_of_cell HW5.out)).trans HW5.out))
  have HR5 := hide (HR4.out.below HB5.out)
  clear hd5 hb5 hq5
  refine hK.out _ _ (fun _ => HP5.out) (fun hHeld => ?_)
  try simp only [Act.put, List.setIfInBounds_toArray, List.set_cons_zero, List.set_cons_succ]
  clear hK K hHeld
  have HPN5 := hide (ptr_new W5 q' 34)
  have HR6 := hide (HR5.out.below HPN5.out.1)
  have hrq6 := HR6.out.rq
  rw [List.length_map, List.map_map] at hrq6
  have HRQ6 := hide hrq6
  have HP6 := hide (HPW.out (W5.alloc (.cells #[ptrV q'] 34)) (cell_of_row _ wp 5 _ _ (0, 0) HR6.out.blk))
  clear hrq6
  refine AnyU.next (js := [7]) (by kernel_rfl) (by simp) (NextU.cons rfl (fun K hK => ?_) NextU.nil)
  go_simp
  refine hK.out _ _ (fun _ => HP6.out) (fun hHeld => ?_)
  try simp only [Act.put, List.setIfInBounds_toArray, List.set_cons_zero, List.set_cons_succ]
  clear hK K hHeld
  have H1 : Hid (∀ u ∈ [ptrV q'], u.oneCell' = true) := hide (ptr_one _)
  have H4 : Hid (B ≤ (W5.alloc (.cells #[ptrV q'] 34)).heap.size) := hide (Nat.le_trans HBW4.out (Nat.le_trans HB5.out.size HPN5.out.1.size))
  refine AnyU.next (js := [8]) (by kernel_rfl) (by simp) (NextU.cons rfl (fun K hK => ?_) NextU.nil)
  refine step_append_any rfl (.tmp 207) (.tmp 210) 37 rfl B 34 (.pointer none) 1 8 infoPD Try.underlying37 rfl (by decide) _ os.length (os.map (ptrV ∘ Pr.q)) rfl HRQ6.out (W5.alloc (.cells #[ptrV q'] 34)).heap.size (some ⟨W5.heap.size, 0, none⟩) 1 1 [ptrV q'] rfl HPN5.out.2 H1.out G2.out G3.out H4.out ?_
  intro v7 W7 hown hg hat
  have HQ7 := hide (HR6.out.push_q (v' := v7) (W2 := W7) (p := q') (by rw [List.length_map, List.map_map]; exact hown) hg hat)
  obtain ⟨A7, c7, rfl⟩ := own_shape hown
  have HP7 := hide (HPW.out W7 (cell_of_row W7 wp 5 _ _ (0, 0) HQ7.out.1))
  clear hown hg hat
  refine hK.out _ _ (fun _ => HP7.out) (fun hHeld => ?_)
  try simp only [Act.put, List.setIfInBounds_toArray, List.set_cons_zero, List.set_cons_succ]
  clear hK K hHeld
  refine AnyU.next (js := [9]) (by kernel_rfl) (by simp) (NextU.cons rfl (fun K hK => ?_) NextU.nil)
  go_simp
  refine hK.out _ _ (fun _ => HP7.out) (fun hHeld => ?_)
  try simp only [Act.put, List.setIfInBounds_toArray, List.set_cons_zero, List.set_cons_succ]
  clear hK K hHeld
  refine AnyU.next (js := [10]) (by kernel_rfl) (by simp) (NextU.cons rfl (fun K hK => ?_) NextU.nil)
  go_simp
  refine hK.out _ _ (fun _ => HP7.out) (fun hHeld => ?_)
  try simp only [Act.put, List.setIfInBounds_toArray, List.set_cons_zero, List.set_cons_succ]
  clear hK K hHeld
  have g5 := cell_of_row W7 wp 5 _ _ (0, 0) HQ7.out.1
  have f5 := frozen_of_row W7 wp 5 _ _ HQ7.out.1
  simp only [List.getElem?_toArray, List.getElem?_cons_zero, List.getElem?_cons_succ] at g5
  refine AnyU.next (js := [11]) (by kernel_rfl) (by simp) (NextU.cons rfl (fun K hK => ?_) NextU.nil)
  go_simp
  refine hK.out _ _ (fun h => absurd h (by decide)) (fun hHeld => ?_)
  try simp only [Act.put, List.setIfInBounds_toArray, List.set_cons_zero, List.set_cons_succ]
  clear hK K hHeld g5 f5
  refine AnyU.over (by kernel_rfl) ?_ _
  have HR8 : Hid (RowsW B wp (X false).p (X true).p (X false).q (X true).q (os.map Pr.p ++ [(X b).p]) (os.map Pr.q ++ [q']) (.slice A6 (os.length + 1) c6) (.slice A7 (os.length + 1) c7) (W7.setCell ⟨wp, 5, none⟩ (.slice A7 (os.length + 1) c7))) := hide HQ7.out.2.1
  have HBe : Hid (Below W4.heap.size W4 (W5.alloc (.cells #[ptrV q'] 34))) := hide (HB5.out.trans (HPN5.out.1.mono HB5.out.size))
  have HP8 : Hid (PrsW B M X os (W7.setCell ⟨wp, 5, none⟩ (.slice A7 (os.length + 1) c7))) := hide ((HP4.out.below HBe.out).only HQ7.out.2.2.1 (fun k hk => ⟨(HW4.out k hk).1, (HW4.out k hk).2.1⟩))
  have HD8 : Hid (DocT (W7.setCell ⟨wp, 5, none⟩ (.slice A7 (os.length + 1) c7)) B q' (X b).vd (X b).l (X b).most) := hide ((HD5.out.below HPN5.out.1).only HQ7.out.2.2.1 (fun k hk ho => by
    have h1 := HW4.out k ho
    rcases hk with e | e
    · have := HQ5.out; omega
    · exact h1.1 b (.inr e)))
  have HN8 : Hid (∀ c, ¬ (X c).All q') := hide (fun c hA => by have := (HP4.out.cur c).lt q' hA; have := HQ5.out; omega)
  have HW8 : Hid (∀ k, OwW wp (.slice A6 (os.length + 1) c6) (.slice A7 (os.length + 1) c7) k → (∀ c, ¬ (X c).All k) ∧ (∀ Y ∈ os, ¬ Y.All k) ∧ k ≠ q') := hide (fun k hk => by
    have hq := HQ5.out
    have hq2 := lt_of_block HD5.out.blk
    have hz := HPN5.out.1.size
    have hz5 := HB5.out.size
    rcases HQ7.out.2.2.2 k hk with e | e
    · have h1 := HW4.out k e
      exact ⟨h1.1, h1.2.1, by omega⟩
    · exact ⟨fun c hA => by have := (HP4.out.cur c).lt k hA; omega, fun Y hY hA => by have := (HP4.out.old Y hY).lt k hA; omega, by omega⟩)
  have HB8 : Hid (Below B w (W7.setCell ⟨wp, 5, none⟩ (.slice A7 (os.length + 1) c7))) := hide (HB4.out.trans ((HBe.out.mono HBW4.out).trans (HQ7.out.2.2.1.below H4.out (fun k hk => (HR4.out.lt k hk).1))))
  have HBW8 : Hid (B ≤ (W7.setCell ⟨wp, 5, none⟩ (.slice A7 (os.length + 1) c7)).heap.size) := hide (Nat.le_trans H4.out HQ7.out.2.2.1.size)
  clear HQ7 HP7 HP6 HRQ6 HR6 HPN5 HR5 HP5 HD5 HB5 HBe hP0 hP
  generalize W7.setCell ⟨wp, 5, none⟩ (.slice A7 (os.length + 1) c7) = W8 at *
  have HBd : Hid (Below W8.heap.size W8 W8.drew) := hide ((Below.refl _ W8).drew)
  have HXd := hide ((HP8.out.below HBd.out).cur b)
  have HCP := hide (copy_any HXd.out.ca)
  go_wp2_with fail
  refine wp_region_U 8 (fun _ => True) (by kernel_rfl) trivial (fun hHeld => ?_)
  refine AnyU.take (i := 0) (v := ?v801) rfl (by kernel_rfl) (by kernel_rfl) (by kernel_rfl) (by kernel_rfl) (fun _ _ _ h => h) (Or.inl ⟨by rfl, ?hy801⟩) hHeld ?r801
  case hy801 => (intro w hSw; (try dsimp only at hSw); go_simp <;> with_reducible rfl)
  simp only [Act.put, List.setIfInBounds_toArray, List.set_cons_zero, List.set_cons_succ]
  refine AnyU.take (i := 1) (v := ?v802) rfl (by kernel_rfl) (by kernel_rfl) (by kernel_rfl) (by kernel_rfl) (fun _ _ _ h => h) (Or.inl ⟨by rfl, ?hy802⟩) hHeld ?r802
  case hy802 => (intro w hSw; (try dsimp only at hSw); go_simp <;> with_reducible rfl)
  simp only [Act.put, List.setIfInBounds_toArray, List.set_cons_zero, List.set_cons_succ]
  refine AnyU.take (i := 2) (v := ?v803) rfl (by kernel_rfl) (by kernel_rfl) (by kernel_rfl) (by kernel_rfl) (fun _ _ _ h => h) (Or.inl ⟨by rfl, ?hy803⟩) hHeld ?r803
  case hy803 => (intro w hSw; (try dsimp only at hSw); go_simp <;> with_reducible rfl)
  simp only [Act.put, List.setIfInBounds_toArray, List.set_cons_zero, List.set_cons_succ]
  refine AnyU.take (i := 4) (v := ?v804) rfl (by kernel_rfl) (by kernel_rfl) (by kernel_rfl) (by kernel_rfl) (fun _ _ _ h => h) (Or.inl ⟨by rfl, ?hy804⟩) hHeld ?r804
  case hy804 => (intro w hSw; (try dsimp only at hSw); go_simp <;> with_reducible rfl)
  simp only [Act.put, List.setIfInBounds_toArray, List.set_cons_zero, List.set_cons_succ]
  refine AnyU.take (i := 5) (v := ?v805) rfl (by kernel_rfl) (by kernel_rfl) (by kernel_rfl) (by kernel_rfl) (fun _ _ _ h => h) (Or.inl ⟨by rfl, ?hy805⟩) hHeld ?r805
  case hy805 => (intro w hSw; (try dsimp only at hSw); go_simp <;> with_reducible rfl)
  simp only [Act.put, List.setIfInBounds_toArray, List.set_cons_zero, List.set_cons_succ]
  clear hHeld
  refine AnyU.next (js := [3]) (by kernel_rfl) (by simp) (NextU.cons rfl (fun K hK => ?_) NextU.nil)
  go_simp
  refine (HCP.out).mono ?_
  rintro _ W9 ⟨p', v', m', rfl, hc', hb'⟩
  have HFIN := hide (StW.aside3 (HR8.out.below HBd.out) (HP8.out.below HBd.out) (HD8.out.below HBd.out) HN8.out HW8.out HO.out.lt HO.out.is hb' hc' (show B ≤ W8.drew.heap.size from HBW8.out))
  have HB3 : Hid (Below B w (W9.setCell ⟨wp, kb, none⟩ (.pointer (some ⟨p', 0, none⟩)))) := hide ((HB8.out.trans ((HBd.out.trans hb').mono HBW8.out)).setCell (show B ≤ wp from HR8.out.base) _)
  have hr9 := (HR8.out.below HBd.out).below hb'
  have HB' := hide hb'
  have g1 := (HO.out.cells hr9).1
  have g2 := frozen_of_row W9 wp kb _ _ hr9.blk
  simp only [ptrV] at g1
  clear hc' hb' hr9
  refine hK.out _ _ (fun _ => trivial) (fun hHeld => ?_)
  try simp only [Act.put, List.setIfInBounds_toArray, List.set_cons_zero, List.set_cons_succ]
  clear hK K
  have hHeld := hHeld (by decide)
  refine AnyU.take (i := 6) (v := ?v806) rfl (by kernel_rfl) (by kernel_rfl) (by kernel_rfl) (by kernel_rfl) (fun _ _ _ h => h) (Or.inl ⟨by rfl, ?hy806⟩) hHeld ?r806
  case hy806 => (intro w hSw; (try dsimp only at hSw); go_simp <;> with_reducible rfl)
  simp only [Act.put, List.setIfInBounds_toArray, List.set_cons_zero, List.set_cons_succ]
  clear hHeld
  refine AnyU.next (js := [7]) (by kernel_rfl) (by simp) (NextU.cons rfl (fun K hK => ?_) NextU.nil)
  go_simp
  refine hK.out _ _ (fun _ => trivial) (fun hHeld => ?_)
  try simp only [Act.put, List.setIfInBounds_toArray, List.set_cons_zero, List.set_cons_succ]
  clear hK K hHeld
  refine AnyU.over (by kernel_rfl) ?_ _
  have y1 : (W9.setCell ⟨wp, kb, none⟩ (.pointer (some ⟨p', 0, none⟩))).cell? ⟨wp, kb, none⟩ = some (.pointer (some ⟨p', 0, none⟩)) := World.cell?_setCell_same' W9 ⟨wp, kb, none⟩ _ (by rw [g1]; rfl)
  have HS9 := hide (HFIN.out.more (Nat.le_succ M))
  clear g1 g2
  generalize hW : W9.setCell ⟨wp, kb, none⟩ (.pointer (some ⟨p', 0, none⟩)) = WZ at *
  have HS10 : Hid (StW B (M + 1) wp (updX X b ⟨p', m', (X b).q, v', (X b).vd, (X b).l, (X b).most⟩) (os ++ [⟨(X b).p, (X b).m, q', (X b).v, (X b).vd, (X b).l, (X b).most⟩]) (.slice A6 (os.length + 1) c6) (.slice A7 (os.length + 1) c7) WZ) := hide (by rw [← hW]; exact HS9.out)
  have HOLD : Hid (NT WZ B (X b).p (X b).v (X b).m (X b).l (X b).most) := hide (by
    rw [← hW]
    exact (HXd.out.ca.below HB'.out).only (T := fun i => i = wp) (Only.set (S := fun i => i = wp) (Only.refl _ W9) ⟨wp, kb, none⟩ rfl _) (fun k hk e => (HW8.out wp (.inl rfl)).1 b (.inl (.inl (e ▸ hk)))))
  clear hW
  have HNEW : Hid (NT WZ B p' v' m' (X b).l (X b).most) := hide (by have := (HS10.out.prs.cur b).ca; rw [updX_same] at this; exact this)
  have HSM : Hid (Calls Try.prog 16 #[.pointer (some ⟨(X b).p, 0, none⟩), .pointer (some ⟨p', 0, none⟩)] WZ (SameP (.bool true) WZ)) := hide (by
    have := same_any HOLD.out HNEW.out
    rwa [decide_eq_true rfl] at this)
  go_wp2_with fail
  refine (HSM.out).mono ?_
  rintro _ _ ⟨rfl, rfl⟩
  go_wp2_with fail
  go_ret
  exact ⟨rfl, _, _, _, _, HS10.out, by simp only [List.length_append, List.length_cons, List.length_nil]; have := HF.out; omega, HB3.out⟩

end Go.Proofs.Ytkidefmkgcankaa
