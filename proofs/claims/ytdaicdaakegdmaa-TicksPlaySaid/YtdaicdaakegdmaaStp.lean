/- The walk of a step of TicksPlay. -/
import Derived.Test.YtdaicdaakegdmaaWld
import Derived.Test.YtdaicdaakegdmaaTol
namespace Go.Proofs.Ytdaicdaakegdmaa
open Go.RowKit Go.Maps Go.Shelf
open Go.ChangeMaps Go.WideMaps

def opS (kind on n t : Int) : Value := .agg #[.int .i64 kind, .int .i64 on, .int .i64 n, .int .i64 t]
/-- What a step leaves. -/
def StepP (B M wp : Nat) (k0 : Nat) (w : World) (e : Ending) (w' : World) : Prop :=
  e = .returned (.bool true) ∧ ∃ X os vo vw, StW B (M + 1) wp X os vo vw w' ∧ os.length ≤ 10 ∧ k0 = 0 ∧ Below B w w'
/-- Which calendar a step is of. -/
structure OnW (on : Int) (b : Bool) (kb : Nat) : Prop where
  lt : kb < 2
  is : b = decide (kb = 1)
  rem : ∃ a c, on.tmod 2 = a ∧ IntKind.i64.wrap (a + 2) = c ∧ c.tmod 2 = (kb : Int)
theorem onW_any (on : Int) : ∃ b kb, OnW on b kb := by
  have h1 : on.tmod 2 = -1 ∨ on.tmod 2 = 0 ∨ on.tmod 2 = 1 := by
    have := Int.tmod_lt_of_pos on (show (0 : Int) < 2 by decide)
    have := Int.lt_tmod_of_pos on (show (0 : Int) < 2 by decide)
    omega
  rcases h1 with h | h | h
  · exact ⟨true, 1, by decide, by decide, -1, 1, h, by decide, by decide⟩
  · exact ⟨false, 0, by decide, by decide, 0, 2, h, by decide, by decide⟩
  · exact ⟨true, 1, by decide, by decide, 1, 3, h, by decide, by decide⟩
theorem OnW.cells {on : Int} {b : Bool} {kb : Nat} (h : OnW on b kb) {B wp : Nat} {X : Bool → Pr} {ps qs : List Nat} {vo vw : Value} {W : World} (hr : RowsW B wp (X false).p (X true).p (X false).q (X true).q ps qs vo vw W) :
    W.cell? ⟨wp, kb, none⟩ = some (ptrV (X b).p) ∧ W.cell? ⟨wp, 2 + kb, none⟩ = some (ptrV (X b).q) := by
  have hk := h.lt
  have hb := h.is
  have : kb = 0 ∨ kb = 1 := by omega
  rcases this with rfl | rfl
  · have hb : b = false := by rw [hb]; decide
    subst hb
    exact ⟨cell_of_row W wp 0 _ _ (0, 0) hr.blk, cell_of_row W wp 2 _ _ (0, 0) hr.blk⟩
  · have hb : b = true := by rw [hb]; decide
    subst hb
    exact ⟨cell_of_row W wp 1 _ _ (0, 0) hr.blk, cell_of_row W wp 3 _ _ (0, 0) hr.blk⟩

theorem setS_low {now n t : Int} {S : List Du} (h : ∀ d ∈ S, now ≤ d.1) : ∀ d ∈ setS now S n t, now ≤ d.1 := by
  unfold setS
  split
  · rename_i hc
    have ht : now ≤ t := by
      unfold setC at hc
      split at hc
      · cases hc
      · split at hc
        · cases hc
        · omega
    intro d hd
    rcases List.mem_cons.1 ((wiD_perm _ _).mem_iff.1 hd) with rfl | hd
    · exact ht
    · exact h d (List.mem_filter.1 hd).1
  · exact h
theorem woD_low {now n : Int} {S : List Du} (h : ∀ d ∈ S, now ≤ d.1) : ∀ d ∈ woD S n, now ≤ d.1 := fun d hd => h d (List.mem_filter.1 hd).1
theorem drop_low {t : Int} : ∀ {S : List Du}, S.Pairwise (fun a b => ltD a b = true) → ∀ d ∈ S.dropWhile (fun d => decide (d.1 ≤ t)), t ≤ d.1
  | [], _, _, hd => by cases hd
  | e :: S, hup, d, hd => by
    rw [List.dropWhile_cons] at hd
    split at hd
    · exact drop_low (List.pairwise_cons.1 hup).2 d hd
    · rename_i he
      have he : ¬ e.1 ≤ t := by simpa using he
      rcases List.mem_cons.1 hd with rfl | hd
      · omega
      · have := (ltD_iff e d).1 ((List.pairwise_cons.1 hup).1 d hd)
        omega
theorem atV_two (S : List Du) (n : Int) : ∃ a b, atV S n = .tuple #[.int .i64 a, .int .i64 b] := by
  unfold atV
  split
  · exact ⟨_, _, rfl⟩
  · exact ⟨_, _, rfl⟩

set_option maxRecDepth 100000 in
set_option maxHeartbeats 8000000 in
theorem step5 {B M wp : Nat} {X : Bool → Pr} {os : List Pr} {vo vw : Value} {w : World} (h : StW B M wp X os vo vw w) (hM : M ≤ 1000) (hos : os.length ≤ 10) (hB : B ≤ w.heap.size) (on n t : Int) (hn : -9223372036854775808 ≤ n ∧ n ≤ 9223372036854775807) {b : Bool} {kb : Nat} (ho : OnW on b kb) :
    Calls Try.prog 21 #[.pointer (some ⟨wp, 0, none⟩), opS 5 on n t] w (StepP B M wp 0 w) := by
  have HB1 : Hid (Below w.heap.size w (w.alloc (.cells #[.int .i64 5, .int .i64 on, .int .i64 n, .int .i64 t] 61))) := hide ((Below.refl _ _).alloc (Nat.le_refl _) _)
  have HX1 := hide (heap_alloc_new w (.cells #[.int .i64 5, .int .i64 on, .int .i64 n, .int .i64 t] 61))
  have HS1 := hide (h.below HB1.out)
  have HO := hide ho
  have HM := hide hM
  have HOS := hide hos
  have HBW := hide hB
  have HN := hide hn
  obtain ⟨cT, cR⟩ := ho.cells HS1.out.rows
  obtain ⟨a, c, hr1, hr2, hr3⟩ := ho.rem
  have hk0 : (0 : Int) ≤ (kb : Int) := by omega
  have hk1 : (kb : Int) < 2 := by have := ho.lt; omega
  have hk2 : kb < 2 := ho.lt
  simp only [ptrV] at cT cR
  have p0 := cell_of_row _ _ 0 _ _ (0, 0) HX1.out
  have p1 := cell_of_row _ _ 1 _ _ (0, 0) HX1.out
  have p2 := cell_of_row _ _ 2 _ _ (0, 0) HX1.out
  have p3 := cell_of_row _ _ 3 _ _ (0, 0) HX1.out
  simp only [List.getElem?_toArray, List.getElem?_cons_zero, List.getElem?_cons_succ] at p0 p1 p2 p3
  clear h ho hM hos hB hn
  simp only [opS]
  go_enter Try.func21, Try.ntmps21
  go_upto_region 2 with fail
  generalize w.alloc (.cells #[.int .i64 5, .int .i64 on, .int .i64 n, .int .i64 t] 61) = w1 at *
  go_quiet (fail)
  have HS2 := hide (HS1.out.below (below_drewN (Below.refl _ _) nq))
  have HB2 : Hid (Below w.heap.size w (w1.drewN nq)) := hide (below_drewN HB1.out nq)
  have HX2 : Hid ((w1.drewN nq).heap[w.heap.size]? = some (.cells #[.int .i64 5, .int .i64 on, .int .i64 n, .int .i64 t] 61 (0, 0))) := hide HX1.out
  clear cT cR p0 p1 p2 p3 HS1 HB1 HX1 hr1 hr2 hr3
  generalize w1.drewN nq = w2 at *
  have p0 := cell_of_row w2 _ 0 _ _ (0, 0) HX2.out
  have p1 := cell_of_row w2 _ 1 _ _ (0, 0) HX2.out
  have p2 := cell_of_row w2 _ 2 _ _ (0, 0) HX2.out
  have p3 := cell_of_row w2 _ 3 _ _ (0, 0) HX2.out
  simp only [List.getElem?_toArray, List.getElem?_cons_zero, List.getElem?_cons_succ] at p0 p1 p2 p3
  have HBW2 : Hid (B ≤ w2.heap.size) := hide (Nat.le_trans HBW.out HB2.out.size)

  have HT := hide (told_any (HS2.out.prs.cur b).ca (HS2.out.prs.cur b).ra (HS2.out.prs.cur b).da (by have := (HS2.out.prs.cur b).len; have := HM.out; omega) t)
  go_wp2_with fail
  refine (HT.out).mono ?_
  rintro _ w3 ⟨rfl, hb3⟩
  have HS3 := hide ((HS2.out.below hb3).more (Nat.le_succ M))
  have HB3 : Hid (Below B w w3) := hide ((HB2.out.mono HBW.out).trans (hb3.mono HBW2.out))
  clear hb3
  go_wp2_with fail
  go_ret
  exact ⟨rfl, X, os, vo, vw, HS3.out, HOS.out, rfl, HB3.out⟩

set_option maxRecDepth 100000 in
set_option maxHeartbeats 8000000 in
theorem step1 {B M wp : Nat} {X : Bool → Pr} {os : List Pr} {vo vw : Value} {w : World} (h : StW B M wp X os vo vw w) (hM : M ≤ 1000) (hos : os.length ≤ 10) (hB : B ≤ w.heap.size) (on n t : Int) (hn : -9223372036854775808 ≤ n ∧ n ≤ 9223372036854775807) {b : Bool} {kb : Nat} (ho : OnW on b kb) :
    Calls Try.prog 21 #[.pointer (some ⟨wp, 0, none⟩), opS 1 on n t] w (StepP B M wp 0 w) := by
  have HB1 : Hid (Below w.heap.size w (w.alloc (.cells #[.int .i64 1, .int .i64 on, .int .i64 n, .int .i64 t] 61))) := hide ((Below.refl _ _).alloc (Nat.le_refl _) _)
  have HX1 := hide (heap_alloc_new w (.cells #[.int .i64 1, .int .i64 on, .int .i64 n, .int .i64 t] 61))
  have HS1 := hide (h.below HB1.out)
  have HO := hide ho
  have HLTW : Hid (∀ i, (X b).All i → i < w.heap.size) := hide (h.prs.cur b).lt
  have HM := hide hM
  have HOS := hide hos
  have HBW := hide hB
  have HN := hide hn
  obtain ⟨cT, cR⟩ := ho.cells HS1.out.rows
  obtain ⟨a, c, hr1, hr2, hr3⟩ := ho.rem
  have hk0 : (0 : Int) ≤ (kb : Int) := by omega
  have hk1 : (kb : Int) < 2 := by have := ho.lt; omega
  have hk2 : kb < 2 := ho.lt
  simp only [ptrV] at cT cR
  have p0 := cell_of_row _ _ 0 _ _ (0, 0) HX1.out
  have p1 := cell_of_row _ _ 1 _ _ (0, 0) HX1.out
  have p2 := cell_of_row _ _ 2 _ _ (0, 0) HX1.out
  have p3 := cell_of_row _ _ 3 _ _ (0, 0) HX1.out
  simp only [List.getElem?_toArray, List.getElem?_cons_zero, List.getElem?_cons_succ] at p0 p1 p2 p3
  clear h ho hM hos hB hn
  simp only [opS]
  go_enter Try.func21, Try.ntmps21
  go_upto_region 2 with fail
  generalize w.alloc (.cells #[.int .i64 1, .int .i64 on, .int .i64 n, .int .i64 t] 61) = w1 at *
  go_quiet (fail)
  have HS2 := hide (HS1.out.below (below_drewN (Below.refl _ _) nq))
  have HB2 : Hid (Below w.heap.size w (w1.drewN nq)) := hide (below_drewN HB1.out nq)
  have HX2 : Hid ((w1.drewN nq).heap[w.heap.size]? = some (.cells #[.int .i64 1, .int .i64 on, .int .i64 n, .int .i64 t] 61 (0, 0))) := hide HX1.out
  clear cT cR p0 p1 p2 p3 HS1 HB1 HX1 hr1 hr2 hr3
  generalize w1.drewN nq = w2 at *
  have p0 := cell_of_row w2 _ 0 _ _ (0, 0) HX2.out
  have p1 := cell_of_row w2 _ 1 _ _ (0, 0) HX2.out
  have p2 := cell_of_row w2 _ 2 _ _ (0, 0) HX2.out
  have p3 := cell_of_row w2 _ 3 _ _ (0, 0) HX2.out
  simp only [List.getElem?_toArray, List.getElem?_cons_zero, List.getElem?_cons_succ] at p0 p1 p2 p3
  have HBW2 : Hid (B ≤ w2.heap.size) := hide (Nat.le_trans HBW.out HB2.out.size)

  have HLT : Hid (∀ i, (X b).All i → i < w.heap.size) := hide HLTW.out
  have HSD := hide (HS2.out.below ((Below.refl _ w2).drew))
  have HX := hide (HSD.out.prs.cur b)
  have HLE : Hid ((X b).l.length ≤ M) := hide (by have := HX.out.ra.length; have := HX.out.len; omega)
  have HC1 := hide (set_any HX.out.ca HX.out.ra (show B ≤ w2.drew.heap.size from HBW2.out) n t HN.out (by have := HLE.out; have := HM.out; omega))
  obtain ⟨P, hP⟩ : ∃ P : World → Prop, P = fun W => W.cell? ⟨w.heap.size, 2, none⟩ = some (.int .i64 n) ∧ W.cell? ⟨w.heap.size, 3, none⟩ = some (.int .i64 t) := ⟨_, rfl⟩
  have HPW : Hid (∀ W, W.heap[w.heap.size]? = some (.cells #[.int .i64 1, .int .i64 on, .int .i64 n, .int .i64 t] 61 (0, 0)) → P W) := hide (fun W hW => by rw [hP]; exact ⟨cell_of_row W _ 2 _ _ (0, 0) hW, cell_of_row W _ 3 _ _ (0, 0) hW⟩)
  have hP0 := HPW.out w2.drew HX2.out
  obtain ⟨cc, hcc⟩ : ∃ cc, cc = setC (X b).now n t := ⟨_, rfl⟩
  have HCC := hide hcc
  rw [← hcc] at HC1
  have hce : (cc == cc) = true := by simp
  clear hcc
  go_wp2_with fail
  refine wp_region_U 14 P (by kernel_rfl) hP0 (fun hHeld => ?_)
  refine AnyU.take (i := 0) (v := ?v1) rfl (by kernel_rfl) (by kernel_rfl) (by kernel_rfl) (by kernel_rfl) (fun _ _ _ h => h) (Or.inl ⟨by rfl, ?hy1⟩) hHeld ?r1
  case hy1 => (intro w hSw; (try dsimp only at hSw); rw [hP] at hSw; obtain ⟨z0, z1⟩ := hSw; go_simp <;> with_reducible rfl)
  simp only [Act.put, List.setIfInBounds_toArray, List.set_cons_zero, List.set_cons_succ]
  refine AnyU.take (i := 1) (v := ?v2) rfl (by kernel_rfl) (by kernel_rfl) (by kernel_rfl) (by kernel_rfl) (fun _ _ _ h => h) (Or.inl ⟨by rfl, ?hy2⟩) hHeld ?r2
  case hy2 => (intro w hSw; (try dsimp only at hSw); rw [hP] at hSw; obtain ⟨z0, z1⟩ := hSw; go_simp <;> with_reducible rfl)
  simp only [Act.put, List.setIfInBounds_toArray, List.set_cons_zero, List.set_cons_succ]
  refine AnyU.take (i := 2) (v := ?v3) rfl (by kernel_rfl) (by kernel_rfl) (by kernel_rfl) (by kernel_rfl) (fun _ _ _ h => h) (Or.inl ⟨by rfl, ?hy3⟩) hHeld ?r3
  case hy3 => (intro w hSw; (try dsimp only at hSw); rw [hP] at hSw; obtain ⟨z0, z1⟩ := hSw; go_simp <;> with_reducible rfl)
  simp only [Act.put, List.setIfInBounds_toArray, List.set_cons_zero, List.set_cons_succ]
  refine AnyU.take (i := 3) (v := ?v4) rfl (by kernel_rfl) (by kernel_rfl) (by kernel_rfl) (by kernel_rfl) (fun _ _ _ h => h) (Or.inl ⟨by rfl, ?hy4⟩) hHeld ?r4
  case hy4 => (intro w hSw; (try dsimp only at hSw); rw [hP] at hSw; obtain ⟨z0, z1⟩ := hSw; go_simp <;> with_reducible rfl)
  simp only [Act.put, List.setIfInBounds_toArray, List.set_cons_zero, List.set_cons_succ]
  refine AnyU.take (i := 4) (v := ?v5) rfl (by kernel_rfl) (by kernel_rfl) (by kernel_rfl) (by kernel_rfl) (fun _ _ _ h => h) (Or.inl ⟨by rfl, ?hy5⟩) hHeld ?r5
  case hy5 => (intro w hSw; (try dsimp only at hSw); rw [hP] at hSw; obtain ⟨z0, z1⟩ := hSw; go_simp <;> with_reducible rfl)
  simp only [Act.put, List.setIfInBounds_toArray, List.set_cons_zero, List.set_cons_succ]
  refine AnyU.take (i := 6) (v := ?v6) rfl (by kernel_rfl) (by kernel_rfl) (by kernel_rfl) (by kernel_rfl) (fun _ _ _ h => h) (Or.inl ⟨by rfl, ?hy6⟩) hHeld ?r6
  case hy6 => (intro w hSw; (try dsimp only at hSw); rw [hP] at hSw; obtain ⟨z0, z1⟩ := hSw; go_simp <;> with_reducible rfl)
  simp only [Act.put, List.setIfInBounds_toArray, List.set_cons_zero, List.set_cons_succ]
  refine AnyU.take (i := 7) (v := ?v7) rfl (by kernel_rfl) (by kernel_rfl) (by kernel_rfl) (by kernel_rfl) (fun _ _ _ h => h) (Or.inl ⟨by rfl, ?hy7⟩) hHeld ?r7
  case hy7 => (intro w hSw; (try dsimp only at hSw); rw [hP] at hSw; obtain ⟨z0, z1⟩ := hSw; go_simp <;> with_reducible rfl)
  simp only [Act.put, List.setIfInBounds_toArray, List.set_cons_zero, List.set_cons_succ]
  refine AnyU.take (i := 8) (v := ?v8) rfl (by kernel_rfl) (by kernel_rfl) (by kernel_rfl) (by kernel_rfl) (fun _ _ _ h => h) (Or.inl ⟨by rfl, ?hy8⟩) hHeld ?r8
  case hy8 => (intro w hSw; (try dsimp only at hSw); rw [hP] at hSw; obtain ⟨z0, z1⟩ := hSw; go_simp <;> with_reducible rfl)
  simp only [Act.put, List.setIfInBounds_toArray, List.set_cons_zero, List.set_cons_succ]
  refine AnyU.take (i := 9) (v := ?v9) rfl (by kernel_rfl) (by kernel_rfl) (by kernel_rfl) (by kernel_rfl) (fun _ _ _ h => h) (Or.inl ⟨by rfl, ?hy9⟩) hHeld ?r9
  case hy9 => (intro w hSw; (try dsimp only at hSw); rw [hP] at hSw; obtain ⟨z0, z1⟩ := hSw; go_simp <;> with_reducible rfl)
  simp only [Act.put, List.setIfInBounds_toArray, List.set_cons_zero, List.set_cons_succ]
  refine AnyU.take (i := 10) (v := ?v10) rfl (by kernel_rfl) (by kernel_rfl) (by kernel_rfl) (by kernel_rfl) (fun _ _ _ h => h) (Or.inl ⟨by rfl, ?hy10⟩) hHeld ?r10
  case hy10 => (intro w hSw; (try dsimp only at hSw); rw [hP] at hSw; obtain ⟨z0, z1⟩ := hSw; go_simp <;> with_reducible rfl)
  simp only [Act.put, List.setIfInBounds_toArray, List.set_cons_zero, List.set_cons_succ]
  clear hHeld
  refine AnyU.next (js := [5]) (by kernel_rfl) (by simp) (NextU.cons rfl (fun K hK => ?_) NextU.nil)
  go_simp
  refine (HC1.out).mono ?_
  rintro _ W3 ⟨rfl, v3, l3, hc3, hr3, ho3, hg3⟩
  have HC3 := hide hc3
  have HR3 := hide hr3
  have HO3 := hide ho3
  have HG3 := hide hg3
  have HD3 := hide (HSD.out.prs.doc b ho3)
  have HX3 : Hid (W3.heap[w.heap.size]? = some (.cells #[.int .i64 1, .int .i64 on, .int .i64 n, .int .i64 t] 61 (0, 0))) := hide ((ho3.block _ (lt_of_block HX2.out) (fun hf => by have := HLT.out _ (.inl (.inl (.inl hf))); omega)).trans HX2.out)
  have HC2 := hide (docSet_any HD3.out (Nat.le_trans (show B ≤ w2.drew.heap.size from HBW2.out) HO3.out.size) n t (by have := HX.out.len; have := HM.out; omega))
  rw [← HCC.out] at HC2
  have HP3 := hide (HPW.out W3 HX3.out)
  clear hc3 hr3 ho3 hg3
  refine hK.out _ _ (fun _ => HP3.out) (fun hHeld => ?_)
  try simp only [Act.put, List.setIfInBounds_toArray, List.set_cons_zero, List.set_cons_succ]
  clear hK K
  have hHeld := hHeld (by decide)
  
  clear hHeld
  refine AnyU.next (js := [11]) (by kernel_rfl) (by simp) (NextU.cons rfl (fun K hK => ?_) NextU.nil)
  go_simp
  refine (HC2.out).mono ?_
  rintro _ W4 ⟨rfl, v4, hd4, ho4, hg4⟩
  have HB := hide (HSD.out.both b (M' := M + 1) HC3.out HR3.out HO3.out HG3.out hd4 ho4 hg4 HX.out.tick (setS_low HX.out.low) (by have := HX.out.len; have := setS_le (X b).now n t (X b).S; omega) (Nat.le_succ M))
  have HX4 : Hid (W4.heap[w.heap.size]? = some (.cells #[.int .i64 1, .int .i64 on, .int .i64 n, .int .i64 t] 61 (0, 0))) := hide ((ho4.block _ (lt_of_block HX3.out) (fun hf => by have := HLT.out (X b).q (.inl (.inr rfl)); omega)).trans HX3.out)
  have HP4 := hide (HPW.out W4 HX4.out)
  have HB4 : Hid (Below B w W4) := hide (((HB2.out.mono HBW.out).trans (((Below.refl _ w2).drew).mono HBW2.out)).trans (HB.out.2.below (show B ≤ w2.drew.heap.size from HBW2.out) (HSD.out.mut_ge b)))
  clear hd4 ho4 hg4
  refine hK.out _ _ (fun _ => HP4.out) (fun hHeld => ?_)
  try simp only [Act.put, List.setIfInBounds_toArray, List.set_cons_zero, List.set_cons_succ]
  clear hK K
  have hHeld := hHeld (by decide)
  refine AnyU.take (i := 12) (v := ?v11) rfl (by kernel_rfl) (by kernel_rfl) (by kernel_rfl) (by kernel_rfl) (fun _ _ _ h => h) (Or.inl ⟨by rfl, ?hy11⟩) hHeld ?r11
  case hy11 => (intro w hSw; (try dsimp only at hSw); rw [hP] at hSw; obtain ⟨z0, z1⟩ := hSw; go_simp <;> with_reducible rfl)
  simp only [Act.put, List.setIfInBounds_toArray, List.set_cons_zero, List.set_cons_succ]
  refine AnyU.take (i := 13) (v := ?v12) rfl (by kernel_rfl) (by kernel_rfl) (by kernel_rfl) (by kernel_rfl) (fun _ _ _ h => h) (Or.inl ⟨by rfl, ?hy12⟩) hHeld ?r12
  case hy12 => (intro w hSw; (try dsimp only at hSw); rw [hP] at hSw; obtain ⟨z0, z1⟩ := hSw; go_simp <;> with_reducible rfl)
  simp only [Act.put, List.setIfInBounds_toArray, List.set_cons_zero, List.set_cons_succ]
  clear hHeld
  refine AnyU.over (by kernel_rfl) ?_ _
  go_wp2_with fail
  go_ret
  exact ⟨rfl, _, os, vo, vw, HB.out.1, HOS.out, rfl, HB4.out⟩

set_option maxRecDepth 100000 in
set_option maxHeartbeats 8000000 in
theorem step2 {B M wp : Nat} {X : Bool → Pr} {os : List Pr} {vo vw : Value} {w : World} (h : StW B M wp X os vo vw w) (hM : M ≤ 1000) (hos : os.length ≤ 10) (hB : B ≤ w.heap.size) (on n t : Int) (hn : -9223372036854775808 ≤ n ∧ n ≤ 9223372036854775807) {b : Bool} {kb : Nat} (ho : OnW on b kb) :
    Calls Try.prog 21 #[.pointer (some ⟨wp, 0, none⟩), opS 2 on n t] w (StepP B M wp 0 w) := by
  have HB1 : Hid (Below w.heap.size w (w.alloc (.cells #[.int .i64 2, .int .i64 on, .int .i64 n, .int .i64 t] 61))) := hide ((Below.refl _ _).alloc (Nat.le_refl _) _)
  have HX1 := hide (heap_alloc_new w (.cells #[.int .i64 2, .int .i64 on, .int .i64 n, .int .i64 t] 61))
  have HS1 := hide (h.below HB1.out)
  have HO := hide ho
  have HLTW : Hid (∀ i, (X b).All i → i < w.heap.size) := hide (h.prs.cur b).lt
  have HM := hide hM
  have HOS := hide hos
  have HBW := hide hB
  have HN := hide hn
  obtain ⟨cT, cR⟩ := ho.cells HS1.out.rows
  obtain ⟨a, c, hr1, hr2, hr3⟩ := ho.rem
  have hk0 : (0 : Int) ≤ (kb : Int) := by omega
  have hk1 : (kb : Int) < 2 := by have := ho.lt; omega
  have hk2 : kb < 2 := ho.lt
  simp only [ptrV] at cT cR
  have p0 := cell_of_row _ _ 0 _ _ (0, 0) HX1.out
  have p1 := cell_of_row _ _ 1 _ _ (0, 0) HX1.out
  have p2 := cell_of_row _ _ 2 _ _ (0, 0) HX1.out
  have p3 := cell_of_row _ _ 3 _ _ (0, 0) HX1.out
  simp only [List.getElem?_toArray, List.getElem?_cons_zero, List.getElem?_cons_succ] at p0 p1 p2 p3
  clear h ho hM hos hB hn
  simp only [opS]
  go_enter Try.func21, Try.ntmps21
  go_upto_region 2 with fail
  generalize w.alloc (.cells #[.int .i64 2, .int .i64 on, .int .i64 n, .int .i64 t] 61) = w1 at *
  go_quiet (fail)
  have HS2 := hide (HS1.out.below (below_drewN (Below.refl _ _) nq))
  have HB2 : Hid (Below w.heap.size w (w1.drewN nq)) := hide (below_drewN HB1.out nq)
  have HX2 : Hid ((w1.drewN nq).heap[w.heap.size]? = some (.cells #[.int .i64 2, .int .i64 on, .int .i64 n, .int .i64 t] 61 (0, 0))) := hide HX1.out
  clear cT cR p0 p1 p2 p3 HS1 HB1 HX1 hr1 hr2 hr3
  generalize w1.drewN nq = w2 at *
  have p0 := cell_of_row w2 _ 0 _ _ (0, 0) HX2.out
  have p1 := cell_of_row w2 _ 1 _ _ (0, 0) HX2.out
  have p2 := cell_of_row w2 _ 2 _ _ (0, 0) HX2.out
  have p3 := cell_of_row w2 _ 3 _ _ (0, 0) HX2.out
  simp only [List.getElem?_toArray, List.getElem?_cons_zero, List.getElem?_cons_succ] at p0 p1 p2 p3
  have HBW2 : Hid (B ≤ w2.heap.size) := hide (Nat.le_trans HBW.out HB2.out.size)

  have HLT : Hid (∀ i, (X b).All i → i < w.heap.size) := hide HLTW.out
  have HSD := hide (HS2.out.below ((Below.refl _ w2).drew))
  have HX := hide (HSD.out.prs.cur b)
  have HLE : Hid ((X b).l.length ≤ M) := hide (by have := HX.out.ra.length; have := HX.out.len; omega)
  have HC1 := hide (drop_any HX.out.ca HX.out.ra n HN.out)
  obtain ⟨P, hP⟩ : ∃ P : World → Prop, P = fun W => W.cell? ⟨w.heap.size, 2, none⟩ = some (.int .i64 n) ∧ W.cell? ⟨w.heap.size, 3, none⟩ = some (.int .i64 t) := ⟨_, rfl⟩
  have HPW : Hid (∀ W, W.heap[w.heap.size]? = some (.cells #[.int .i64 2, .int .i64 on, .int .i64 n, .int .i64 t] 61 (0, 0)) → P W) := hide (fun W hW => by rw [hP]; exact ⟨cell_of_row W _ 2 _ _ (0, 0) hW, cell_of_row W _ 3 _ _ (0, 0) hW⟩)
  have hP0 := HPW.out w2.drew HX2.out
  obtain ⟨cc, hcc⟩ : ∃ cc, cc = dropC (X b).S n := ⟨_, rfl⟩
  have HCC := hide hcc
  rw [← hcc] at HC1
  have hce : (cc == cc) = true := by simp
  clear hcc
  go_wp2_with fail
  refine wp_region_U 10 P (by kernel_rfl) hP0 (fun hHeld => ?_)
  refine AnyU.take (i := 0) (v := ?v1) rfl (by kernel_rfl) (by kernel_rfl) (by kernel_rfl) (by kernel_rfl) (fun _ _ _ h => h) (Or.inl ⟨by rfl, ?hy1⟩) hHeld ?r1
  case hy1 => (intro w hSw; (try dsimp only at hSw); rw [hP] at hSw; obtain ⟨z0, z1⟩ := hSw; go_simp <;> with_reducible rfl)
  simp only [Act.put, List.setIfInBounds_toArray, List.set_cons_zero, List.set_cons_succ]
  refine AnyU.take (i := 1) (v := ?v2) rfl (by kernel_rfl) (by kernel_rfl) (by kernel_rfl) (by kernel_rfl) (fun _ _ _ h => h) (Or.inl ⟨by rfl, ?hy2⟩) hHeld ?r2
  case hy2 => (intro w hSw; (try dsimp only at hSw); rw [hP] at hSw; obtain ⟨z0, z1⟩ := hSw; go_simp <;> with_reducible rfl)
  simp only [Act.put, List.setIfInBounds_toArray, List.set_cons_zero, List.set_cons_succ]
  refine AnyU.take (i := 2) (v := ?v3) rfl (by kernel_rfl) (by kernel_rfl) (by kernel_rfl) (by kernel_rfl) (fun _ _ _ h => h) (Or.inl ⟨by rfl, ?hy3⟩) hHeld ?r3
  case hy3 => (intro w hSw; (try dsimp only at hSw); rw [hP] at hSw; obtain ⟨z0, z1⟩ := hSw; go_simp <;> with_reducible rfl)
  simp only [Act.put, List.setIfInBounds_toArray, List.set_cons_zero, List.set_cons_succ]
  refine AnyU.take (i := 4) (v := ?v4) rfl (by kernel_rfl) (by kernel_rfl) (by kernel_rfl) (by kernel_rfl) (fun _ _ _ h => h) (Or.inl ⟨by rfl, ?hy4⟩) hHeld ?r4
  case hy4 => (intro w hSw; (try dsimp only at hSw); rw [hP] at hSw; obtain ⟨z0, z1⟩ := hSw; go_simp <;> with_reducible rfl)
  simp only [Act.put, List.setIfInBounds_toArray, List.set_cons_zero, List.set_cons_succ]
  refine AnyU.take (i := 5) (v := ?v5) rfl (by kernel_rfl) (by kernel_rfl) (by kernel_rfl) (by kernel_rfl) (fun _ _ _ h => h) (Or.inl ⟨by rfl, ?hy5⟩) hHeld ?r5
  case hy5 => (intro w hSw; (try dsimp only at hSw); rw [hP] at hSw; obtain ⟨z0, z1⟩ := hSw; go_simp <;> with_reducible rfl)
  simp only [Act.put, List.setIfInBounds_toArray, List.set_cons_zero, List.set_cons_succ]
  refine AnyU.take (i := 6) (v := ?v6) rfl (by kernel_rfl) (by kernel_rfl) (by kernel_rfl) (by kernel_rfl) (fun _ _ _ h => h) (Or.inl ⟨by rfl, ?hy6⟩) hHeld ?r6
  case hy6 => (intro w hSw; (try dsimp only at hSw); rw [hP] at hSw; obtain ⟨z0, z1⟩ := hSw; go_simp <;> with_reducible rfl)
  simp only [Act.put, List.setIfInBounds_toArray, List.set_cons_zero, List.set_cons_succ]
  clear hHeld
  refine AnyU.next (js := [3]) (by kernel_rfl) (by simp) (NextU.cons rfl (fun K hK => ?_) NextU.nil)
  go_simp
  refine (HC1.out).mono ?_
  rintro _ W3 ⟨rfl, v3, l3, hc3, hr3, ho3, hg3⟩
  have HC3 := hide hc3
  have HR3 := hide hr3
  have HO3 := hide ho3
  have HG3 := hide hg3
  have HD3 := hide (HSD.out.prs.doc b ho3)
  have HX3 : Hid (W3.heap[w.heap.size]? = some (.cells #[.int .i64 2, .int .i64 on, .int .i64 n, .int .i64 t] 61 (0, 0))) := hide ((ho3.block _ (lt_of_block HX2.out) (fun hf => by have := HLT.out _ (.inl (.inl (.inl hf))); omega)).trans HX2.out)
  have HC2 := hide (docDrop_any HD3.out (Nat.le_trans (show B ≤ w2.drew.heap.size from HBW2.out) HO3.out.size) n)
  rw [← HCC.out] at HC2
  have HP3 := hide (HPW.out W3 HX3.out)
  clear hc3 hr3 ho3 hg3
  refine hK.out _ _ (fun _ => HP3.out) (fun hHeld => ?_)
  try simp only [Act.put, List.setIfInBounds_toArray, List.set_cons_zero, List.set_cons_succ]
  clear hK K
  have hHeld := hHeld (by decide)
  
  clear hHeld
  refine AnyU.next (js := [7]) (by kernel_rfl) (by simp) (NextU.cons rfl (fun K hK => ?_) NextU.nil)
  go_simp
  refine (HC2.out).mono ?_
  rintro _ W4 ⟨rfl, v4, hd4, ho4, hg4⟩
  have HB := hide (HSD.out.both b (M' := M + 1) HC3.out HR3.out HO3.out HG3.out hd4 ho4 hg4 HX.out.tick (woD_low HX.out.low) (by have := HX.out.len; have := woD_len (X b).S n; omega) (Nat.le_succ M))
  have HX4 : Hid (W4.heap[w.heap.size]? = some (.cells #[.int .i64 2, .int .i64 on, .int .i64 n, .int .i64 t] 61 (0, 0))) := hide ((ho4.block _ (lt_of_block HX3.out) (fun hf => by have := HLT.out (X b).q (.inl (.inr rfl)); omega)).trans HX3.out)
  have HP4 := hide (HPW.out W4 HX4.out)
  have HB4 : Hid (Below B w W4) := hide (((HB2.out.mono HBW.out).trans (((Below.refl _ w2).drew).mono HBW2.out)).trans (HB.out.2.below (show B ≤ w2.drew.heap.size from HBW2.out) (HSD.out.mut_ge b)))
  clear hd4 ho4 hg4
  refine hK.out _ _ (fun _ => HP4.out) (fun hHeld => ?_)
  try simp only [Act.put, List.setIfInBounds_toArray, List.set_cons_zero, List.set_cons_succ]
  clear hK K
  have hHeld := hHeld (by decide)
  refine AnyU.take (i := 8) (v := ?v7) rfl (by kernel_rfl) (by kernel_rfl) (by kernel_rfl) (by kernel_rfl) (fun _ _ _ h => h) (Or.inl ⟨by rfl, ?hy7⟩) hHeld ?r7
  case hy7 => (intro w hSw; (try dsimp only at hSw); rw [hP] at hSw; obtain ⟨z0, z1⟩ := hSw; go_simp <;> with_reducible rfl)
  simp only [Act.put, List.setIfInBounds_toArray, List.set_cons_zero, List.set_cons_succ]
  refine AnyU.take (i := 9) (v := ?v8) rfl (by kernel_rfl) (by kernel_rfl) (by kernel_rfl) (by kernel_rfl) (fun _ _ _ h => h) (Or.inl ⟨by rfl, ?hy8⟩) hHeld ?r8
  case hy8 => (intro w hSw; (try dsimp only at hSw); rw [hP] at hSw; obtain ⟨z0, z1⟩ := hSw; go_simp <;> with_reducible rfl)
  simp only [Act.put, List.setIfInBounds_toArray, List.set_cons_zero, List.set_cons_succ]
  clear hHeld
  refine AnyU.over (by kernel_rfl) ?_ _
  go_wp2_with fail
  go_ret
  exact ⟨rfl, _, os, vo, vw, HB.out.1, HOS.out, rfl, HB4.out⟩

set_option maxRecDepth 100000 in
set_option maxHeartbeats 8000000 in
theorem step3 {B M wp : Nat} {X : Bool → Pr} {os : List Pr} {vo vw : Value} {w : World} (h : StW B M wp X os vo vw w) (hM : M ≤ 1000) (hos : os.length ≤ 10) (hB : B ≤ w.heap.size) (on n t : Int) (hn : -9223372036854775808 ≤ n ∧ n ≤ 9223372036854775807) {b : Bool} {kb : Nat} (ho : OnW on b kb) :
    Calls Try.prog 21 #[.pointer (some ⟨wp, 0, none⟩), opS 3 on n t] w (StepP B M wp 0 w) := by
  have HB1 : Hid (Below w.heap.size w (w.alloc (.cells #[.int .i64 3, .int .i64 on, .int .i64 n, .int .i64 t] 61))) := hide ((Below.refl _ _).alloc (Nat.le_refl _) _)
  have HX1 := hide (heap_alloc_new w (.cells #[.int .i64 3, .int .i64 on, .int .i64 n, .int .i64 t] 61))
  have HS1 := hide (h.below HB1.out)
  have HO := hide ho
  have HLTW : Hid (∀ i, (X b).All i → i < w.heap.size) := hide (h.prs.cur b).lt
  have HM := hide hM
  have HOS := hide hos
  have HBW := hide hB
  have HN := hide hn
  obtain ⟨cT, cR⟩ := ho.cells HS1.out.rows
  obtain ⟨a, c, hr1, hr2, hr3⟩ := ho.rem
  have hk0 : (0 : Int) ≤ (kb : Int) := by omega
  have hk1 : (kb : Int) < 2 := by have := ho.lt; omega
  have hk2 : kb < 2 := ho.lt
  simp only [ptrV] at cT cR
  have p0 := cell_of_row _ _ 0 _ _ (0, 0) HX1.out
  have p1 := cell_of_row _ _ 1 _ _ (0, 0) HX1.out
  have p2 := cell_of_row _ _ 2 _ _ (0, 0) HX1.out
  have p3 := cell_of_row _ _ 3 _ _ (0, 0) HX1.out
  simp only [List.getElem?_toArray, List.getElem?_cons_zero, List.getElem?_cons_succ] at p0 p1 p2 p3
  clear h ho hM hos hB hn
  simp only [opS]
  go_enter Try.func21, Try.ntmps21
  go_upto_region 2 with fail
  generalize w.alloc (.cells #[.int .i64 3, .int .i64 on, .int .i64 n, .int .i64 t] 61) = w1 at *
  go_quiet (fail)
  have HS2 := hide (HS1.out.below (below_drewN (Below.refl _ _) nq))
  have HB2 : Hid (Below w.heap.size w (w1.drewN nq)) := hide (below_drewN HB1.out nq)
  have HX2 : Hid ((w1.drewN nq).heap[w.heap.size]? = some (.cells #[.int .i64 3, .int .i64 on, .int .i64 n, .int .i64 t] 61 (0, 0))) := hide HX1.out
  clear cT cR p0 p1 p2 p3 HS1 HB1 HX1 hr1 hr2 hr3
  generalize w1.drewN nq = w2 at *
  have p0 := cell_of_row w2 _ 0 _ _ (0, 0) HX2.out
  have p1 := cell_of_row w2 _ 1 _ _ (0, 0) HX2.out
  have p2 := cell_of_row w2 _ 2 _ _ (0, 0) HX2.out
  have p3 := cell_of_row w2 _ 3 _ _ (0, 0) HX2.out
  simp only [List.getElem?_toArray, List.getElem?_cons_zero, List.getElem?_cons_succ] at p0 p1 p2 p3
  have HBW2 : Hid (B ≤ w2.heap.size) := hide (Nat.le_trans HBW.out HB2.out.size)

  have HX := hide (HS2.out.prs.cur b)
  obtain ⟨a1, a2, hav⟩ := atV_two (X b).S n
  have HC1 := hide (at_any HX.out.ca HX.out.ra n HN.out)
  have HC2 := hide (docAt_any HX.out.da n)
  rw [hav] at HC1 HC2
  have e1 : (a1 == a1) = true := by simp
  have e2 : (a2 == a2) = true := by simp
  clear hav
  have HS3 := hide (HS2.out.more (Nat.le_succ M))
  have HB3 : Hid (Below B w w2) := hide (HB2.out.mono HBW.out)
  go_wp2_with fail
  refine (HC1.out).mono ?_
  rintro _ _ ⟨rfl, rfl⟩
  go_wp2_with fail
  refine (HC2.out).mono ?_
  rintro _ _ ⟨rfl, rfl⟩
  go_wp2_with fail
  go_ret
  exact ⟨rfl, X, os, vo, vw, HS3.out, HOS.out, rfl, HB3.out⟩

set_option maxRecDepth 100000 in
set_option maxHeartbeats 8000000 in
theorem step0 {B M wp : Nat} {X : Bool → Pr} {os : List Pr} {vo vw : Value} {w : World} (h : StW B M wp X os vo vw w) (hM : M ≤ 1000) (hos : os.length ≤ 10) (hB : B ≤ w.heap.size) (on n t : Int) (hn : -9223372036854775808 ≤ n ∧ n ≤ 9223372036854775807) {b : Bool} {kb : Nat} (ho : OnW on b kb) {kind : Int} (h1 : (kind == 1) = false) (h2 : (kind == 2) = false) (h3 : (kind == 3) = false) (h4 : (kind == 4) = false) (h5 : (kind == 5) = false) (h6 : (kind == 6) = false) :
    Calls Try.prog 21 #[.pointer (some ⟨wp, 0, none⟩), opS kind on n t] w (StepP B M wp 0 w) := by
  have HB1 : Hid (Below w.heap.size w (w.alloc (.cells #[.int .i64 kind, .int .i64 on, .int .i64 n, .int .i64 t] 61))) := hide ((Below.refl _ _).alloc (Nat.le_refl _) _)
  have HX1 := hide (heap_alloc_new w (.cells #[.int .i64 kind, .int .i64 on, .int .i64 n, .int .i64 t] 61))
  have HS1 := hide (h.below HB1.out)
  have HO := hide ho
  have HLTW : Hid (∀ i, (X b).All i → i < w.heap.size) := hide (h.prs.cur b).lt
  have HM := hide hM
  have HOS := hide hos
  have HBW := hide hB
  have HN := hide hn
  obtain ⟨cT, cR⟩ := ho.cells HS1.out.rows
  obtain ⟨a, c, hr1, hr2, hr3⟩ := ho.rem
  have hk0 : (0 : Int) ≤ (kb : Int) := by omega
  have hk1 : (kb : Int) < 2 := by have := ho.lt; omega
  have hk2 : kb < 2 := ho.lt
  simp only [ptrV] at cT cR
  have p0 := cell_of_row _ _ 0 _ _ (0, 0) HX1.out
  have p1 := cell_of_row _ _ 1 _ _ (0, 0) HX1.out
  have p2 := cell_of_row _ _ 2 _ _ (0, 0) HX1.out
  have p3 := cell_of_row _ _ 3 _ _ (0, 0) HX1.out
  simp only [List.getElem?_toArray, List.getElem?_cons_zero, List.getElem?_cons_succ] at p0 p1 p2 p3
  clear h ho hM hos hB hn
  simp only [opS]
  go_enter Try.func21, Try.ntmps21
  go_upto_region 2 with fail
  generalize w.alloc (.cells #[.int .i64 kind, .int .i64 on, .int .i64 n, .int .i64 t] 61) = w1 at *
  go_quiet (fail)
  have HS2 := hide (HS1.out.below (below_drewN (Below.refl _ _) nq))
  have HB2 : Hid (Below w.heap.size w (w1.drewN nq)) := hide (below_drewN HB1.out nq)
  have HX2 : Hid ((w1.drewN nq).heap[w.heap.size]? = some (.cells #[.int .i64 kind, .int .i64 on, .int .i64 n, .int .i64 t] 61 (0, 0))) := hide HX1.out
  clear cT cR p0 p1 p2 p3 HS1 HB1 HX1 hr1 hr2 hr3
  generalize w1.drewN nq = w2 at *
  have p0 := cell_of_row w2 _ 0 _ _ (0, 0) HX2.out
  have p1 := cell_of_row w2 _ 1 _ _ (0, 0) HX2.out
  have p2 := cell_of_row w2 _ 2 _ _ (0, 0) HX2.out
  have p3 := cell_of_row w2 _ 3 _ _ (0, 0) HX2.out
  simp only [List.getElem?_toArray, List.getElem?_cons_zero, List.getElem?_cons_succ] at p0 p1 p2 p3
  have HBW2 : Hid (B ≤ w2.heap.size) := hide (Nat.le_trans HBW.out HB2.out.size)

  have HS3 := hide (HS2.out.more (Nat.le_succ M))
  have HB3 : Hid (Below B w w2) := hide (HB2.out.mono HBW.out)
  go_wp2_with fail
  go_ret
  exact ⟨rfl, X, os, vo, vw, HS3.out, HOS.out, rfl, HB3.out⟩

/-- What the wiping of an answer holds. -/
structure WipX (B M wp : Nat) (X : Bool → Pr) (os : List Pr) (vo vw : Value) (B9 g n c : Nat) (w0 W : World) : Prop where
  st : StW B M wp X os vo vw W
  row : ∃ xs, W.ownsRow B9 30 2 (.slice (some ⟨g, 0, none⟩) n c) n xs
  no : ¬ OwW wp vo vw g ∧ (∀ b, ¬ (X b).All g) ∧ ∀ Y ∈ os, ¬ Y.All g
  bel : Below B w0 W
  lo : B ≤ B9
section
variable {B M wp B9 g n c : Nat} {X : Bool → Pr} {os : List Pr} {vo vw : Value} {w0 W : World}
theorem WipX.set1 (h : WipX B M wp X os vo vw B9 g n c w0 W) (k : Nat) (u : Value) : WipX B M wp X os vo vw B9 g n c w0 (W.setCell ⟨g, k, none⟩ u) := by
  obtain ⟨xs, h1⟩ := h.row
  have hg := (h1.lt g rfl).1
  exact ⟨h.st.only (Only.set (S := fun i => i = g) (Only.refl _ W) ⟨g, k, none⟩ rfl u) (fun i e => by rw [e]; exact h.no), ⟨_, (h1.stored k u).1⟩, h.no, h.bel.setCell (Nat.le_trans h.lo hg) u, h.lo⟩
theorem WipX.at_ (h : WipX B M wp X os vo vw B9 g n c w0 W) {k : Nat} (hk : k < n) : ∃ u v, W.cell? ⟨g, k * 2, none⟩ = some u ∧ W.cell? ⟨g, k * 2 + 1, none⟩ = some v ∧ W.frozen? ⟨g, k * 2, none⟩ = false ∧ W.frozen? ⟨g, k * 2 + 1, none⟩ = false := by
  obtain ⟨xs, h1⟩ := h.row
  have hl : xs.length = n * 2 := h1.1
  refine ⟨xs[k * 2]'(by omega), xs[k * 2 + 1]'(by omega), ?_, ?_, h1.frozenAt _, h1.frozenAt _⟩
  · rw [h1.cellAt _ (by omega), List.getElem?_eq_getElem]
  · rw [h1.cellAt _ (by omega), List.getElem?_eq_getElem]
end

set_option maxRecDepth 100000 in
set_option maxHeartbeats 8000000 in
theorem step4b {B M wp : Nat} {X : Bool → Pr} {os : List Pr} {vo vw : Value} {w : World} (h : StW B M wp X os vo vw w) (hM : M ≤ 1000) (hos : os.length ≤ 10) (hB : B ≤ w.heap.size) (on n t : Int) (hn : -9223372036854775808 ≤ n ∧ n ≤ 9223372036854775807) {b : Bool} {kb : Nat} (ho : OnW on b kb) (hbad : isT t = false ∨ t < (X b).now) :
    Calls Try.prog 21 #[.pointer (some ⟨wp, 0, none⟩), opS 4 on n t] w (StepP B M wp 0 w) := by
  have HB1 : Hid (Below w.heap.size w (w.alloc (.cells #[.int .i64 4, .int .i64 on, .int .i64 n, .int .i64 t] 61))) := hide ((Below.refl _ _).alloc (Nat.le_refl _) _)
  have HX1 := hide (heap_alloc_new w (.cells #[.int .i64 4, .int .i64 on, .int .i64 n, .int .i64 t] 61))
  have HS1 := hide (h.below HB1.out)
  have HO := hide ho
  have HLTW : Hid (∀ i, (X b).All i → i < w.heap.size) := hide (h.prs.cur b).lt
  have HM := hide hM
  have HOS := hide hos
  have HBW := hide hB
  have HN := hide hn
  obtain ⟨cT, cR⟩ := ho.cells HS1.out.rows
  obtain ⟨a, c, hr1, hr2, hr3⟩ := ho.rem
  have hk0 : (0 : Int) ≤ (kb : Int) := by omega
  have hk1 : (kb : Int) < 2 := by have := ho.lt; omega
  have hk2 : kb < 2 := ho.lt
  simp only [ptrV] at cT cR
  have p0 := cell_of_row _ _ 0 _ _ (0, 0) HX1.out
  have p1 := cell_of_row _ _ 1 _ _ (0, 0) HX1.out
  have p2 := cell_of_row _ _ 2 _ _ (0, 0) HX1.out
  have p3 := cell_of_row _ _ 3 _ _ (0, 0) HX1.out
  simp only [List.getElem?_toArray, List.getElem?_cons_zero, List.getElem?_cons_succ] at p0 p1 p2 p3
  clear h ho hM hos hB hn
  simp only [opS]
  go_enter Try.func21, Try.ntmps21
  go_upto_region 2 with fail
  generalize w.alloc (.cells #[.int .i64 4, .int .i64 on, .int .i64 n, .int .i64 t] 61) = w1 at *
  go_quiet (fail)
  have HS2 := hide (HS1.out.below (below_drewN (Below.refl _ _) nq))
  have HB2 : Hid (Below w.heap.size w (w1.drewN nq)) := hide (below_drewN HB1.out nq)
  have HX2 : Hid ((w1.drewN nq).heap[w.heap.size]? = some (.cells #[.int .i64 4, .int .i64 on, .int .i64 n, .int .i64 t] 61 (0, 0))) := hide HX1.out
  clear cT cR p0 p1 p2 p3 HS1 HB1 HX1 hr1 hr2 hr3
  generalize w1.drewN nq = w2 at *
  have p0 := cell_of_row w2 _ 0 _ _ (0, 0) HX2.out
  have p1 := cell_of_row w2 _ 1 _ _ (0, 0) HX2.out
  have p2 := cell_of_row w2 _ 2 _ _ (0, 0) HX2.out
  have p3 := cell_of_row w2 _ 3 _ _ (0, 0) HX2.out
  simp only [List.getElem?_toArray, List.getElem?_cons_zero, List.getElem?_cons_succ] at p0 p1 p2 p3
  have HBW2 : Hid (B ≤ w2.heap.size) := hide (Nat.le_trans HBW.out HB2.out.size)

  have HX := hide (HS2.out.prs.cur b)
  have HC1 := hide (upto_bad HX.out.ca t hbad)
  have HC2 := hide (docUpto_bad HX.out.da t hbad)
  have HSA := hide (same_any none 0 [] none 0 [] w2 (Reads.none_ _ w2.heap.size 2) (Reads.none_ _ w2.heap.size 2) (by simp))
  clear hbad
  generalize (if isT t = false then (2 : Int) else 6) = cc at *
  have hce : (cc != cc) = false := by simp
  go_wp2_with fail
  refine (HC1.out).mono ?_
  rintro _ _ ⟨rfl, rfl⟩
  go_wp2_with fail
  refine (HC2.out).mono ?_
  rintro _ _ ⟨rfl, rfl⟩
  go_wp2_with fail
  refine (HSA.out).mono ?_
  rintro _ w3 ⟨rfl, hb3⟩
  have HS3 := hide ((HS2.out.below hb3).more (Nat.le_succ M))
  have HB3 : Hid (Below B w w3) := hide ((HB2.out.mono HBW.out).trans (hb3.mono HBW2.out))
  have hd0 : decide (([] : List Du) = []) = true := by simp
  clear hb3
  go_wp2_with fail
  go_loop [16] (fun iv => iv = .int .i64 0) (fun _ => 0)
  case atStart => rfl
  case round =>
    obtain rfl := hrel
    go_wp2_with fail
    go_ret
    exact ⟨rfl, X, os, vo, vw, HS3.out, HOS.out, rfl, HB3.out⟩

set_option maxRecDepth 100000 in
set_option maxHeartbeats 8000000 in
theorem step4 {B M wp : Nat} {X : Bool → Pr} {os : List Pr} {vo vw : Value} {w : World} (h : StW B M wp X os vo vw w) (hM : M ≤ 1000) (hos : os.length ≤ 10) (hB : B ≤ w.heap.size) (on n t : Int) (hn : -9223372036854775808 ≤ n ∧ n ≤ 9223372036854775807) {b : Bool} {kb : Nat} (ho : OnW on b kb) (htt : isT t = true) (htn : ¬ t < (X b).now) :
    Calls Try.prog 21 #[.pointer (some ⟨wp, 0, none⟩), opS 4 on n t] w (StepP B M wp 0 w) := by
  have HB1 : Hid (Below w.heap.size w (w.alloc (.cells #[.int .i64 4, .int .i64 on, .int .i64 n, .int .i64 t] 61))) := hide ((Below.refl _ _).alloc (Nat.le_refl _) _)
  have HX1 := hide (heap_alloc_new w (.cells #[.int .i64 4, .int .i64 on, .int .i64 n, .int .i64 t] 61))
  have HS1 := hide (h.below HB1.out)
  have HO := hide ho
  have HLTW : Hid (∀ i, (X b).All i → i < w.heap.size) := hide (h.prs.cur b).lt
  have HM := hide hM
  have HOS := hide hos
  have HBW := hide hB
  have HN := hide hn
  obtain ⟨cT, cR⟩ := ho.cells HS1.out.rows
  obtain ⟨a, c, hr1, hr2, hr3⟩ := ho.rem
  have hk0 : (0 : Int) ≤ (kb : Int) := by omega
  have hk1 : (kb : Int) < 2 := by have := ho.lt; omega
  have hk2 : kb < 2 := ho.lt
  simp only [ptrV] at cT cR
  have p0 := cell_of_row _ _ 0 _ _ (0, 0) HX1.out
  have p1 := cell_of_row _ _ 1 _ _ (0, 0) HX1.out
  have p2 := cell_of_row _ _ 2 _ _ (0, 0) HX1.out
  have p3 := cell_of_row _ _ 3 _ _ (0, 0) HX1.out
  simp only [List.getElem?_toArray, List.getElem?_cons_zero, List.getElem?_cons_succ] at p0 p1 p2 p3
  clear h ho hM hos hB hn
  simp only [opS]
  go_enter Try.func21, Try.ntmps21
  go_upto_region 2 with fail
  generalize w.alloc (.cells #[.int .i64 4, .int .i64 on, .int .i64 n, .int .i64 t] 61) = w1 at *
  go_quiet (fail)
  have HS2 := hide (HS1.out.below (below_drewN (Below.refl _ _) nq))
  have HB2 : Hid (Below w.heap.size w (w1.drewN nq)) := hide (below_drewN HB1.out nq)
  have HX2 : Hid ((w1.drewN nq).heap[w.heap.size]? = some (.cells #[.int .i64 4, .int .i64 on, .int .i64 n, .int .i64 t] 61 (0, 0))) := hide HX1.out
  clear cT cR p0 p1 p2 p3 HS1 HB1 HX1 hr1 hr2 hr3
  generalize w1.drewN nq = w2 at *
  have p0 := cell_of_row w2 _ 0 _ _ (0, 0) HX2.out
  have p1 := cell_of_row w2 _ 1 _ _ (0, 0) HX2.out
  have p2 := cell_of_row w2 _ 2 _ _ (0, 0) HX2.out
  have p3 := cell_of_row w2 _ 3 _ _ (0, 0) HX2.out
  simp only [List.getElem?_toArray, List.getElem?_cons_zero, List.getElem?_cons_succ] at p0 p1 p2 p3
  have HBW2 : Hid (B ≤ w2.heap.size) := hide (Nat.le_trans HBW.out HB2.out.size)

  have HX := hide (HS2.out.prs.cur b)
  have HTT := hide htt
  have HTN := hide htn
  have HC1 := hide (upto_any HX.out.ca HX.out.ra HBW2.out htt htn)
  clear htt htn
  go_wp2_with fail
  refine (HC1.out).mono ?_
  rintro _ w3 ⟨vx, v3, l3, rfl, hox, hc3, hr3, ho3, hg3, hx3⟩
  have HOX := hide hox
  have HC3 := hide hc3
  have HR3 := hide hr3
  have HO3 := hide ho3
  have HG3 := hide hg3
  have HX3 := hide hx3
  have HD3 := hide (HS2.out.prs.doc b ho3)
  have HP3 : Hid (w3.heap[w.heap.size]? = some (.cells #[.int .i64 4, .int .i64 on, .int .i64 n, .int .i64 t] 61 (0, 0))) := hide ((ho3.block _ (lt_of_block HX2.out) (fun hf => by have := HLTW.out _ (.inl (.inl (.inl hf))); omega)).trans HX2.out)
  have HC2 := hide (docUpto_any HD3.out t HTT.out (by have := HTN.out; omega))
  clear hox hc3 hr3 ho3 hg3 hx3 p0 p1 p2 p3
  have p3 := cell_of_row w3 _ 3 _ _ (0, 0) HP3.out
  simp only [List.getElem?_toArray, List.getElem?_cons_zero, List.getElem?_cons_succ] at p3
  go_wp2_with fail
  refine (HC2.out).mono ?_
  rintro _ w4 ⟨vo4, v4, rfl, hso, hd4, ho4, hgo, hg4⟩
  have HL : Hid (((X b).S.takeWhile (fun d => decide (d.1 ≤ t))).length ≤ 2000) := hide (Nat.le_trans (List.takeWhile_sublist _).length_le (Nat.le_trans HX.out.len (Nat.le_trans HM.out (by omega))))
  have HB := hide (HS2.out.both b (M' := M + 1) HC3.out HR3.out HO3.out HG3.out hd4 ho4 (fun g hg => .inl (hg4 g hg)) HTT.out (drop_low HX.out.ra.up) (Nat.le_trans (List.dropWhile_sublist _).length_le (Nat.le_trans HX.out.len (Nat.le_succ M))) (Nat.le_succ M))
  have HZ3 := hide HO3.out.size
  have HQ : Hid (∀ i, (X b).All i → i < w2.heap.size) := hide HX.out.lt
  have HOX4 := hide (own_only HOX.out ho4 (fun g hg e => by have h1 := (HOX.out.lt g hg).1; have h2 := HQ.out (X b).q (.inl (.inr rfl)); omega))
  have HB4 : Hid (Below B w w4) := hide ((HB2.out.mono HBW.out).trans (HB.out.2.below HBW2.out (HS2.out.mut_ge b)))
  have HNO : Hid (∀ g, vx.ownBlock = some g → ¬ OwW wp vo vw g ∧ (∀ c, ¬ (updX X b ⟨(X b).p, (X b).r, (X b).x, (X b).m, (X b).q, v3, v4, t, l3, (X b).S.dropWhile (fun d => decide (d.1 ≤ t))⟩ c).All g) ∧ ∀ Y ∈ os, ¬ Y.All g) := hide (fun g hg => by
    have h1 := (HOX.out.lt g hg).1
    refine ⟨fun h => by have := (HS2.out.rows.lt g h).2; omega, fun c => ?_, fun Y hY h => by have := (HS2.out.prs.old Y hY).lt g h; omega⟩
    rcases bool_two b c with rfl | rfl
    · rw [updX_same]
      have key : ∀ i, (X c).All i → i ≠ g := fun i hi e => by have := HQ.out i hi; omega
      rintro ((((e | e | e | e) | e) | e) | e)
      · exact key _ (.inl (.inl (.inl (.inl rfl)))) e.symm
      · exact key _ (.inl (.inl (.inl (.inr (.inl rfl))))) e.symm
      · exact key _ (.inl (.inl (.inl (.inr (.inr (.inl rfl)))))) e.symm
      · exact HX3.out g hg e
      · exact key _ (.inl (.inl (.inr rfl))) e.symm
      · exact key _ (.inl (.inr rfl)) e.symm
      · exact key g (.inr (hg4 g e)) rfl
    · rw [updX_other]
      exact fun h => by have := (HS2.out.prs.cur !b).lt g h; omega)
  obtain ⟨A4, c4, hv4, _, _, hrd4⟩ := hso.rd
  subst hv4
  obtain ⟨AX, cX, hvx, _, hAX⟩ := own_form2 HOX4.out
  subst hvx
  have HSA := hide (same_any AX cX _ A4 c4 _ w4 (Reads.of_own HOX4.out) hrd4 (by have := HL.out; omega))
  have HAX := hide hAX
  clear hso hd4 ho4 hgo hg4 hrd4 hAX p3
  generalize hT : (X b).S.takeWhile (fun d => decide (d.1 ≤ t)) = T at *
  have hdT : decide (T = T) = true := by simp
  go_wp2_with fail
  refine (HSA.out).mono ?_
  rintro _ w5 ⟨rfl, hb5⟩
  have HS5 := hide (HB.out.1.below hb5)
  have HB5 : Hid (Below B w w5) := hide (HB4.out.trans (hb5.mono (Nat.le_trans HBW.out HB4.out.size)))
  have HOX5 := hide (own_below HOX4.out hb5 (Nat.le_refl _))
  clear hb5 hT HSA
  go_wp2_with fail
  rcases HAX.out with ⟨rfl, hl0, rfl⟩ | ⟨bX, oX, rfl⟩
  · obtain rfl := List.eq_nil_of_length_eq_zero hl0
    clear hl0
    go_loop [16] (fun iv => iv = .int .i64 0) (fun _ => 0)
    case atStart => rfl
    case round =>
      obtain rfl := hrel
      go_wp2_with fail
      go_ret
      exact ⟨rfl, _, os, vo, vw, HS5.out, HOS.out, rfl, HB5.out⟩
  have hoX : oX = 0 := by
    rcases HOX5.out.2 with ⟨e, _⟩ | ⟨g, cap, cur, e, _⟩
    · cases e
    · injection e with e; injection e with e; injection e with _ e _
  subst hoX
  have HW := hide (WipX.mk (B9 := w2.heap.size) (w0 := w) HS5.out ⟨_, HOX5.out⟩ (HNO.out bX rfl) HB5.out HBW2.out)
  go_loopw [16] (fun iv wr => ∃ k : Nat, k ≤ T.length ∧ iv = .int .i64 k ∧ WipX B (M + 1) wp (updX X b ⟨(X b).p, (X b).r, (X b).x, (X b).m, (X b).q, v3, v4, t, l3, (X b).S.dropWhile (fun d => decide (d.1 ≤ t))⟩) os vo vw w2.heap.size bX T.length cX w wr) (fun iv _ => T.length - (intOf iv).toNat)
  case atStart => exact ⟨0, Nat.zero_le _, rfl, HW.out⟩
  case round =>
    obtain ⟨k, hk, rfl, hw⟩ := hrel
    have HWR := hide hw
    clear hw
    by_cases hlt : k < T.length
    · obtain ⟨u1, u2, z0, z1, z2, z3⟩ := HWR.out.at_ hlt
      have hki : (k : Int) < (T.length : Int) := by omega
      have hk0 : (0 : Int) ≤ (k : Int) := by omega
      have hk9 : (k : Int) ≤ 2000 := by have := HL.out; omega
      have HS7 := hide ((HWR.out.set1 (k * 2) (.int .i64 9)).set1 (k * 2 + 1) (.int .i64 9))
      go_wp2_with fail
      go_roundw
      case rel => exact ⟨k + 1, by omega, by go_num, HS7.out⟩
      case measure => simp [intOf]; omega
    · have hki : ¬ (k : Int) < (T.length : Int) := by omega
      go_wp2_with fail
      go_ret
      exact ⟨rfl, _, os, vo, vw, HWR.out.st, HOS.out, rfl, HWR.out.bel⟩

end Go.Proofs.Ytdaicdaakegdmaa
