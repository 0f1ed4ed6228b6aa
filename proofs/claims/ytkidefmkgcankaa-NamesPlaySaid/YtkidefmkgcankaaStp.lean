/- The walk of a step of NamesPlay. -/
import Derived.Test.YtkidefmkgcankaaWld
import Derived.Test.YtkidefmkgcankaaWl6
import Derived.Test.YtkidefmkgcankaaTol
namespace Go.Proofs.Ytkidefmkgcankaa
open Go.RowKit Go.Maps Go.Shelf
open Go.ChangeMaps Go.WideMaps

def opS (kind on : Int) (s : ByteArray) (n : Int) : Value := .agg #[.int .i64 kind, .int .i64 on, .string s, .int .i64 n]
/-- What a step leaves. -/
def StepP (B M wp : Nat) (w : World) (e : Ending) (w' : World) : Prop :=
  e = .returned (.bool true) ∧ ∃ X os vo vw, StW B (M + 1) wp X os vo vw w' ∧ os.length ≤ 10 ∧ Below B w w'
/-- Which table a step is of. -/
structure OnW (on : Int) (b : Bool) (kb : Nat) : Prop where
  lt : kb < 2
  is : b = decide (kb = 1)
  rem : ∃ a c, on.tmod 2 = a ∧ IntKind.i64.wrap (a + 2) = c ∧ c.tmod 2 = (kb : Int)
theorem onW_any (on : Int) : ∃ b kb, OnW on b kb := by
  have h1 : on.tmod 2 = -1 ∨ on.tmod 2 = 0 ∨ on.tmod 2 = 1 := by
    have := Int.tmod_lt_of_pos on (show (0 : Int) < 2 by decide)
    have := Int.lt_tmod_of_pos on (show (0 : Int) < 2 by decide)
    omega
  rcases h1 with h | h | h
  · exact ⟨true, 1, by decide, by decide, -1, 1, h, by decide, by decide⟩
  · exact ⟨false, 0, by decide, by decide, 0, 2, h, by decide, by decide⟩
  · exact ⟨true, 1, by decide, by decide, 1, 3, h, by decide, by decide⟩
theorem OnW.cells {on : Int} {b : Bool} {kb : Nat} (h : OnW on b kb) {B wp : Nat} {X : Bool → Pr} {ps qs : List Nat} {vo vw : Value} {W : World} (hr : RowsW B wp (X false).p (X true).p (X false).q (X true).q ps qs vo vw W) :
    W.cell? ⟨wp, kb, none⟩ = some (ptrV (X b).p) ∧ W.cell? ⟨wp, 2 + kb, none⟩ = some (ptrV (X b).q) := by
  have hk := h.lt
  have hb := h.is
  have : kb = 0 ∨ kb = 1 := by omega
  rcases this with rfl | rfl
  · have hb : b = false := by rw [hb]; decide
    subst hb
    exact ⟨cell_of_row W wp 0 _ _ (0, 0) hr.blk, cell_of_row W wp 2 _ _ (0, 0) hr.blk⟩
  · have hb : b = true := by rw [hb]; decide
    subst hb
    exact ⟨cell_of_row W wp 1 _ _ (0, 0) hr.blk, cell_of_row W wp 3 _ _ (0, 0) hr.blk⟩
theorem RowsW.four {B wp p0 p1 q0 q1 : Nat} {ps qs : List Nat} {vo vw : Value} {W : World} (hr : RowsW B wp p0 p1 q0 q1 ps qs vo vw W) :
    W.cell? ⟨wp, 0, none⟩ = some (ptrV p0) ∧ W.cell? ⟨wp, 1, none⟩ = some (ptrV p1) ∧ W.cell? ⟨wp, 2, none⟩ = some (ptrV q0) ∧ W.cell? ⟨wp, 3, none⟩ = some (ptrV q1) :=
  ⟨cell_of_row W wp 0 _ _ (0, 0) hr.blk, cell_of_row W wp 1 _ _ (0, 0) hr.blk, cell_of_row W wp 2 _ _ (0, 0) hr.blk, cell_of_row W wp 3 _ _ (0, 0) hr.blk⟩

set_option maxRecDepth 100000 in
set_option maxHeartbeats 8000000 in
theorem step5 {B M wp : Nat} {X : Bool → Pr} {os : List Pr} {vo vw : Value} {w : World} (h : StW B M wp X os vo vw w) (hos : os.length ≤ 10) (hB : B ≤ w.heap.size) (on : Int) (s : ByteArray) (n : Int) (hs : s.size ≤ maxLen) {b : Bool} {kb : Nat} (ho : OnW on b kb) :
    Calls Try.prog 14 #[.pointer (some ⟨wp, 0, none⟩), opS 5 on s n] w (StepP B M wp w) := by
  have HB1 : Hid (Below w.heap.size w (w.alloc (.cells #[.int .i64 5, .int .i64 on, .string s, .int .i64 n] 46))) := hide ((Below.refl _ _).alloc (Nat.le_refl _) _)
  have HX1 := hide (heap_alloc_new w (.cells #[.int .i64 5, .int .i64 on, .string s, .int .i64 n] 46))
  have HS1 := hide (h.below HB1.out)
  have HO := hide ho
  have HLT : Hid (∀ i, (X b).All i → i < w.heap.size) := hide (h.prs.cur b).lt
  have HOS := hide hos
  have HBW := hide hB
  have HSZ := hide hs
  obtain ⟨cT, cR⟩ := ho.cells HS1.out.rows
  obtain ⟨a, c, hr1, hr2, hr3⟩ := ho.rem
  have hk0 : (0 : Int) ≤ (kb : Int) := by omega
  have hk1 : (kb : Int) < 2 := by have := ho.lt; omega
  have hk2 : kb < 2 := ho.lt
  simp only [ptrV] at cT cR
  have p0 := cell_of_row _ _ 0 _ _ (0, 0) HX1.out
  have p1 := cell_of_row _ _ 1 _ _ (0, 0) HX1.out
  have p2 := cell_of_row _ _ 2 _ _ (0, 0) HX1.out
  have p3 := cell_of_row _ _ 3 _ _ (0, 0) HX1.out
  simp only [List.getElem?_toArray, List.getElem?_cons_zero, List.getElem?_cons_succ] at p0 p1 p2 p3
  clear h ho hos hB hs
  simp only [opS]
  go_enter Try.func14, Try.ntmps14
  go_upto_region 2 with fail
  generalize w.alloc (.cells #[.int .i64 5, .int .i64 on, .string s, .int .i64 n] 46) = w1 at *
  go_quiet (fail)
  have HS2 := hide (HS1.out.below (bel_drewN (Below.refl _ _) nq))
  have HB2 : Hid (Below w.heap.size w (w1.drewN nq)) := hide (bel_drewN HB1.out nq)
  have HX2 : Hid ((w1.drewN nq).heap[w.heap.size]? = some (.cells #[.int .i64 5, .int .i64 on, .string s, .int .i64 n] 46 (0, 0))) := hide HX1.out
  clear cT cR p0 p1 p2 p3 HS1 HB1 HX1 hr1 hr2 hr3
  generalize w1.drewN nq = w2 at *
  have p0 := cell_of_row w2 _ 0 _ _ (0, 0) HX2.out
  have p1 := cell_of_row w2 _ 1 _ _ (0, 0) HX2.out
  have p2 := cell_of_row w2 _ 2 _ _ (0, 0) HX2.out
  have p3 := cell_of_row w2 _ 3 _ _ (0, 0) HX2.out
  simp only [List.getElem?_toArray, List.getElem?_cons_zero, List.getElem?_cons_succ] at p0 p1 p2 p3
  have HBW2 : Hid (B ≤ w2.heap.size) := hide (Nat.le_trans HBW.out HB2.out.size)
  have HX := hide (HS2.out.prs.cur b)
  have HT := hide (told_any HX.out.ca HX.out.da n)
  go_wp2_with fail
  refine (HT.out).mono ?_
  rintro _ w3 ⟨rfl, hb3⟩
  have HS3 := hide ((HS2.out.below hb3).more (Nat.le_succ M))
  have HB3 : Hid (Below B w w3) := hide ((HB2.out.mono HBW.out).trans (hb3.mono HBW2.out))
  clear hb3
  go_wp2_with fail
  go_ret
  exact ⟨rfl, X, os, vo, vw, HS3.out, HOS.out, HB3.out⟩

set_option maxRecDepth 100000 in
set_option maxHeartbeats 8000000 in
theorem step4 {B M wp : Nat} {X : Bool → Pr} {os : List Pr} {vo vw : Value} {w : World} (h : StW B M wp X os vo vw w) (hos : os.length ≤ 10) (hB : B ≤ w.heap.size) (on : Int) (s : ByteArray) (n : Int) (hs : s.size ≤ maxLen) {b : Bool} {kb : Nat} (ho : OnW on b kb) :
    Calls Try.prog 14 #[.pointer (some ⟨wp, 0, none⟩), opS 4 on s n] w (StepP B M wp w) := by
  have HB1 : Hid (Below w.heap.size w (w.alloc (.cells #[.int .i64 4, .int .i64 on, .string s, .int .i64 n] 46))) := hide ((Below.refl _ _).alloc (Nat.le_refl _) _)
  have HX1 := hide (heap_alloc_new w (.cells #[.int .i64 4, .int .i64 on, .string s, .int .i64 n] 46))
  have HS1 := hide (h.below HB1.out)
  have HO := hide ho
  have HLT : Hid (∀ i, (X b).All i → i < w.heap.size) := hide (h.prs.cur b).lt
  have HOS := hide hos
  have HBW := hide hB
  have HSZ := hide hs
  obtain ⟨cT, cR⟩ := ho.cells HS1.out.rows
  obtain ⟨a, c, hr1, hr2, hr3⟩ := ho.rem
  have hk0 : (0 : Int) ≤ (kb : Int) := by omega
  have hk1 : (kb : Int) < 2 := by have := ho.lt; omega
  have hk2 : kb < 2 := ho.lt
  simp only [ptrV] at cT cR
  have p0 := cell_of_row _ _ 0 _ _ (0, 0) HX1.out
  have p1 := cell_of_row _ _ 1 _ _ (0, 0) HX1.out
  have p2 := cell_of_row _ _ 2 _ _ (0, 0) HX1.out
  have p3 := cell_of_row _ _ 3 _ _ (0, 0) HX1.out
  simp only [List.getElem?_toArray, List.getElem?_cons_zero, List.getElem?_cons_succ] at p0 p1 p2 p3
  clear h ho hos hB hs
  simp only [opS]
  go_enter Try.func14, Try.ntmps14
  go_upto_region 2 with fail
  generalize w.alloc (.cells #[.int .i64 4, .int .i64 on, .string s, .int .i64 n] 46) = w1 at *
  go_quiet (fail)
  have HS2 := hide (HS1.out.below (bel_drewN (Below.refl _ _) nq))
  have HB2 : Hid (Below w.heap.size w (w1.drewN nq)) := hide (bel_drewN HB1.out nq)
  have HX2 : Hid ((w1.drewN nq).heap[w.heap.size]? = some (.cells #[.int .i64 4, .int .i64 on, .string s, .int .i64 n] 46 (0, 0))) := hide HX1.out
  clear cT cR p0 p1 p2 p3 HS1 HB1 HX1 hr1 hr2 hr3
  generalize w1.drewN nq = w2 at *
  have p0 := cell_of_row w2 _ 0 _ _ (0, 0) HX2.out
  have p1 := cell_of_row w2 _ 1 _ _ (0, 0) HX2.out
  have p2 := cell_of_row w2 _ 2 _ _ (0, 0) HX2.out
  have p3 := cell_of_row w2 _ 3 _ _ (0, 0) HX2.out
  simp only [List.getElem?_toArray, List.getElem?_cons_zero, List.getElem?_cons_succ] at p0 p1 p2 p3
  have HBW2 : Hid (B ≤ w2.heap.size) := hide (Nat.le_trans HBW.out HB2.out.size)
  have HX := hide (HS2.out.prs.cur b)
  have HT := hide (lists_any HX.out.ca HX.out.da s)
  go_wp2_with fail
  refine (HT.out).mono ?_
  rintro _ w3 ⟨rfl, hb3⟩
  have HS3 := hide ((HS2.out.below hb3).more (Nat.le_succ M))
  have HB3 : Hid (Below B w w3) := hide ((HB2.out.mono HBW.out).trans (hb3.mono HBW2.out))
  clear hb3
  go_wp2_with fail
  go_ret
  exact ⟨rfl, X, os, vo, vw, HS3.out, HOS.out, HB3.out⟩

set_option maxRecDepth 100000 in
set_option maxHeartbeats 8000000 in
theorem step0 {B M wp : Nat} {X : Bool → Pr} {os : List Pr} {vo vw : Value} {w : World} (h : StW B M wp X os vo vw w) (hos : os.length ≤ 10) (hB : B ≤ w.heap.size) (on : Int) (s : ByteArray) (n : Int) (hs : s.size ≤ maxLen) {b : Bool} {kb : Nat} (ho : OnW on b kb) {kind : Int} (h1 : (kind == 1) = false) (h2 : (kind == 2) = false) (h3 : (kind == 3) = false) (h4 : (kind == 4) = false) (h5 : (kind == 5) = false) (h6 : (kind == 6) = false) (h7 : (kind == 7) = false) :
    Calls Try.prog 14 #[.pointer (some ⟨wp, 0, none⟩), opS kind on s n] w (StepP B M wp w) := by
  have HB1 : Hid (Below w.heap.size w (w.alloc (.cells #[.int .i64 kind, .int .i64 on, .string s, .int .i64 n] 46))) := hide ((Below.refl _ _).alloc (Nat.le_refl _) _)
  have HX1 := hide (heap_alloc_new w (.cells #[.int .i64 kind, .int .i64 on, .string s, .int .i64 n] 46))
  have HS1 := hide (h.below HB1.out)
  have HO := hide ho
  have HLT : Hid (∀ i, (X b).All i → i < w.heap.size) := hide (h.prs.cur b).lt
  have HOS := hide hos
  have HBW := hide hB
  have HSZ := hide hs
  obtain ⟨cT, cR⟩ := ho.cells HS1.out.rows
  obtain ⟨a, c, hr1, hr2, hr3⟩ := ho.rem
  have hk0 : (0 : Int) ≤ (kb : Int) := by omega
  have hk1 : (kb : Int) < 2 := by have := ho.lt; omega
  have hk2 : kb < 2 := ho.lt
  simp only [ptrV] at cT cR
  have p0 := cell_of_row _ _ 0 _ _ (0, 0) HX1.out
  have p1 := cell_of_row _ _ 1 _ _ (0, 0) HX1.out
  have p2 := cell_of_row _ _ 2 _ _ (0, 0) HX1.out
  have p3 := cell_of_row _ _ 3 _ _ (0, 0) HX1.out
  simp only [List.getElem?_toArray, List.getElem?_cons_zero, List.getElem?_cons_succ] at p0 p1 p2 p3
  clear h ho hos hB hs
  simp only [opS]
  go_enter Try.func14, Try.ntmps14
  go_upto_region 2 with fail
  generalize w.alloc (.cells #[.int .i64 kind, .int .i64 on, .string s, .int .i64 n] 46) = w1 at *
  go_quiet (fail)
  have HS2 := hide (HS1.out.below (bel_drewN (Below.refl _ _) nq))
  have HB2 : Hid (Below w.heap.size w (w1.drewN nq)) := hide (bel_drewN HB1.out nq)
  have HX2 : Hid ((w1.drewN nq).heap[w.heap.size]? = some (.cells #[.int .i64 kind, .int .i64 on, .string s, .int .i64 n] 46 (0, 0))) := hide HX1.out
  clear cT cR p0 p1 p2 p3 HS1 HB1 HX1 hr1 hr2 hr3
  generalize w1.drewN nq = w2 at *
  have p0 := cell_of_row w2 _ 0 _ _ (0, 0) HX2.out
  have p1 := cell_of_row w2 _ 1 _ _ (0, 0) HX2.out
  have p2 := cell_of_row w2 _ 2 _ _ (0, 0) HX2.out
  have p3 := cell_of_row w2 _ 3 _ _ (0, 0) HX2.out
  simp only [List.getElem?_toArray, List.getElem?_cons_zero, List.getElem?_cons_succ] at p0 p1 p2 p3
  have HBW2 : Hid (B ≤ w2.heap.size) := hide (Nat.le_trans HBW.out HB2.out.size)
  have HS3 := hide (HS2.out.more (Nat.le_succ M))
  have HB3 : Hid (Below B w w2) := hide (HB2.out.mono HBW.out)
  go_wp2_with fail
  go_ret
  exact ⟨rfl, X, os, vo, vw, HS3.out, HOS.out, HB3.out⟩

set_option maxRecDepth 100000 in
set_option maxHeartbeats 8000000 in
theorem step1 {B M wp : Nat} {X : Bool → Pr} {os : List Pr} {vo vw : Value} {w : World} (h : StW B M wp X os vo vw w) (hos : os.length ≤ 10) (hB : B ≤ w.heap.size) (on : Int) (s : ByteArray) (n : Int) (hs : s.size ≤ maxLen) {b : Bool} {kb : Nat} (ho : OnW on b kb) :
    Calls Try.prog 14 #[.pointer (some ⟨wp, 0, none⟩), opS 1 on s n] w (StepP B M wp w) := by
  have HB1 : Hid (Below w.heap.size w (w.alloc (.cells #[.int .i64 1, .int .i64 on, .string s, .int .i64 n] 46))) := hide ((Below.refl _ _).alloc (Nat.le_refl _) _)
  have HX1 := hide (heap_alloc_new w (.cells #[.int .i64 1, .int .i64 on, .string s, .int .i64 n] 46))
  have HS1 := hide (h.below HB1.out)
  have HO := hide ho
  have HLT : Hid (∀ i, (X b).All i → i < w.heap.size) := hide (h.prs.cur b).lt
  have HOS := hide hos
  have HBW := hide hB
  have HSZ := hide hs
  obtain ⟨cT, cR⟩ := ho.cells HS1.out.rows
  obtain ⟨a, c, hr1, hr2, hr3⟩ := ho.rem
  have hk0 : (0 : Int) ≤ (kb : Int) := by omega
  have hk1 : (kb : Int) < 2 := by have := ho.lt; omega
  have hk2 : kb < 2 := ho.lt
  simp only [ptrV] at cT cR
  have p0 := cell_of_row _ _ 0 _ _ (0, 0) HX1.out
  have p1 := cell_of_row _ _ 1 _ _ (0, 0) HX1.out
  have p2 := cell_of_row _ _ 2 _ _ (0, 0) HX1.out
  have p3 := cell_of_row _ _ 3 _ _ (0, 0) HX1.out
  simp only [List.getElem?_toArray, List.getElem?_cons_zero, List.getElem?_cons_succ] at p0 p1 p2 p3
  clear h ho hos hB hs
  simp only [opS]
  go_enter Try.func14, Try.ntmps14
  go_upto_region 2 with fail
  generalize w.alloc (.cells #[.int .i64 1, .int .i64 on, .string s, .int .i64 n] 46) = w1 at *
  go_quiet (fail)
  have HS2 := hide (HS1.out.below (bel_drewN (Below.refl _ _) nq))
  have HB2 : Hid (Below w.heap.size w (w1.drewN nq)) := hide (bel_drewN HB1.out nq)
  have HX2 : Hid ((w1.drewN nq).heap[w.heap.size]? = some (.cells #[.int .i64 1, .int .i64 on, .string s, .int .i64 n] 46 (0, 0))) := hide HX1.out
  clear cT cR p0 p1 p2 p3 HS1 HB1 HX1 hr1 hr2 hr3
  generalize w1.drewN nq = w2 at *
  have p0 := cell_of_row w2 _ 0 _ _ (0, 0) HX2.out
  have p1 := cell_of_row w2 _ 1 _ _ (0, 0) HX2.out
  have p2 := cell_of_row w2 _ 2 _ _ (0, 0) HX2.out
  have p3 := cell_of_row w2 _ 3 _ _ (0, 0) HX2.out
  simp only [List.getElem?_toArray, List.getElem?_cons_zero, List.getElem?_cons_succ] at p0 p1 p2 p3
  have HBW2 : Hid (B ≤ w2.heap.size) := hide (Nat.le_trans HBW.out HB2.out.size)
  have HX := hide (HS2.out.prs.cur b)
  obtain ⟨a1, a2, l1, har⟩ : ∃ a1 a2 l1, addRes (X b).l (X b).most s = (a1, a2, l1) := ⟨_, _, _, rfl⟩
  have HLN : Hid (l1.length ≤ (X b).l.length + 1) := hide (by have := (addRes_len (X b).l (X b).most s).2; rw [har] at this; exact this)
  have HC1 : Hid (Calls Try.prog 19 #[.pointer (some ⟨(X b).p, 0, none⟩), .string s] w2 (fun e w' => e = .returned (.tuple #[.int .i64 a1, .int .i64 a2]) ∧ ∃ v', NT w' B (X b).p v' (X b).m l1 (X b).most ∧ Only (Foot (X b).p (X b).m (X b).v) w2 w' ∧ (v'.ownBlock = (X b).v.ownBlock ∨ ∃ g, v'.ownBlock = some g ∧ w2.heap.size ≤ g))) := hide (by
    have := add_any B (X b).p (X b).m (X b).v (X b).l (X b).most s w2 HX.out.ca HBW2.out
    unfold AddPost at this
    rw [har] at this
    exact this)
  have HC2 : Hid (∀ W, DocT W B (X b).q (X b).vd (X b).l (X b).most → B ≤ W.heap.size → Calls Try.prog 29 #[.pointer (some ⟨(X b).q, 0, none⟩), .string s] W (DocQ B (X b).q (X b).vd l1 (X b).most (.tuple #[.int .i64 a1, .int .i64 a2]) W)) := hide (fun W hW hBW => by
    have := docAdd_any hW HX.out.ca.nodup HX.out.ca.len (by have := HX.out.ca.lenN; omega) hBW s
    rw [har] at this
    exact this)
  have e1 : (a1 == a1) = true := by simp
  have e2 : (a2 == a2) = true := by simp
  clear har
  go_wp2_with fail
  refine (HC1.out).mono ?_
  rintro _ W3 ⟨rfl, v3, hc3, ho3, hg3⟩
  have HC3 := hide hc3
  have HO3 := hide ho3
  have HG3 : Hid (∀ g, v3.ownBlock = some g → (X b).v.ownBlock = some g ∨ w2.heap.size ≤ g) := hide (fun g e => by
    rcases hg3 with h1 | ⟨g', h1, h2⟩
    · exact .inl (h1 ▸ e)
    · rw [h1] at e; injection e with e; exact .inr (e ▸ h2))
  have HD3 := hide (HS2.out.prs.doc b ho3)
  have HX3 : Hid (W3.heap[w.heap.size]? = some (.cells #[.int .i64 1, .int .i64 on, .string s, .int .i64 n] 46 (0, 0))) := hide ((ho3.block _ (lt_of_block HX2.out) (fun hf => by have := HLT.out _ (.inl (.inl hf)); omega)).trans HX2.out)
  have HC4 := hide (HC2.out W3 HD3.out (Nat.le_trans HBW2.out HO3.out.size))
  clear hc3 ho3 hg3 p0 p1 p2 p3
  have p2 := cell_of_row W3 _ 2 _ _ (0, 0) HX3.out
  simp only [List.getElem?_toArray, List.getElem?_cons_zero, List.getElem?_cons_succ] at p2
  go_wp2_with fail
  refine (HC4.out).mono ?_
  rintro _ W4 ⟨rfl, v4, hd4, ho4, hg4⟩
  have HB := hide (HS2.out.both b (M' := M + 1) HC3.out HO3.out HG3.out hd4 ho4 hg4 (by have := HX.out.len; have := HLN.out; omega) (Nat.le_succ M))
  have HB4 : Hid (Below B w W4) := hide ((HB2.out.mono HBW.out).trans (HB.out.2.below HBW2.out (HS2.out.mut_ge b)))
  clear hd4 ho4 hg4 p2
  go_wp2_with fail
  go_ret
  exact ⟨rfl, _, os, vo, vw, HB.out.1, HOS.out, HB4.out⟩

set_option maxRecDepth 100000 in
set_option maxHeartbeats 8000000 in
theorem step2 {B M wp : Nat} {X : Bool → Pr} {os : List Pr} {vo vw : Value} {w : World} (h : StW B M wp X os vo vw w) (hos : os.length ≤ 10) (hB : B ≤ w.heap.size) (on : Int) (s : ByteArray) (n : Int) (hs : s.size ≤ maxLen) {b : Bool} {kb : Nat} (ho : OnW on b kb) :
    Calls Try.prog 14 #[.pointer (some ⟨wp, 0, none⟩), opS 2 on s n] w (StepP B M wp w) := by
  have HB1 : Hid (Below w.heap.size w (w.alloc (.cells #[.int .i64 2, .int .i64 on, .string s, .int .i64 n] 46))) := hide ((Below.refl _ _).alloc (Nat.le_refl _) _)
  have HX1 := hide (heap_alloc_new w (.cells #[.int .i64 2, .int .i64 on, .string s, .int .i64 n] 46))
  have HS1 := hide (h.below HB1.out)
  have HO := hide ho
  have HLT : Hid (∀ i, (X b).All i → i < w.heap.size) := hide (h.prs.cur b).lt
  have HOS := hide hos
  have HBW := hide hB
  have HSZ := hide hs
  obtain ⟨cT, cR⟩ := ho.cells HS1.out.rows
  obtain ⟨a, c, hr1, hr2, hr3⟩ := ho.rem
  have hk0 : (0 : Int) ≤ (kb : Int) := by omega
  have hk1 : (kb : Int) < 2 := by have := ho.lt; omega
  have hk2 : kb < 2 := ho.lt
  simp only [ptrV] at cT cR
  have p0 := cell_of_row _ _ 0 _ _ (0, 0) HX1.out
  have p1 := cell_of_row _ _ 1 _ _ (0, 0) HX1.out
  have p2 := cell_of_row _ _ 2 _ _ (0, 0) HX1.out
  have p3 := cell_of_row _ _ 3 _ _ (0, 0) HX1.out
  simp only [List.getElem?_toArray, List.getElem?_cons_zero, List.getElem?_cons_succ] at p0 p1 p2 p3
  clear h ho hos hB hs
  simp only [opS]
  go_enter Try.func14, Try.ntmps14
  go_upto_region 2 with fail
  generalize w.alloc (.cells #[.int .i64 2, .int .i64 on, .string s, .int .i64 n] 46) = w1 at *
  go_quiet (fail)
  have HS2 := hide (HS1.out.below (bel_drewN (Below.refl _ _) nq))
  have HB2 : Hid (Below w.heap.size w (w1.drewN nq)) := hide (bel_drewN HB1.out nq)
  have HX2 : Hid ((w1.drewN nq).heap[w.heap.size]? = some (.cells #[.int .i64 2, .int .i64 on, .string s, .int .i64 n] 46 (0, 0))) := hide HX1.out
  clear cT cR p0 p1 p2 p3 HS1 HB1 HX1 hr1 hr2 hr3
  generalize w1.drewN nq = w2 at *
  have p0 := cell_of_row w2 _ 0 _ _ (0, 0) HX2.out
  have p1 := cell_of_row w2 _ 1 _ _ (0, 0) HX2.out
  have p2 := cell_of_row w2 _ 2 _ _ (0, 0) HX2.out
  have p3 := cell_of_row w2 _ 3 _ _ (0, 0) HX2.out
  simp only [List.getElem?_toArray, List.getElem?_cons_zero, List.getElem?_cons_succ] at p0 p1 p2 p3
  have HBW2 : Hid (B ≤ w2.heap.size) := hide (Nat.le_trans HBW.out HB2.out.size)
  have HX := hide (HS2.out.prs.cur b)
  obtain ⟨a1, a2, hav⟩ : ∃ a1 a2, findR (X b).l s = (a1, a2) := ⟨_, _, rfl⟩
  have HC1 := hide (find_any B (X b).p (X b).m (X b).v (X b).l (X b).most s w2 HX.out.ca HSZ.out)
  have HC2 := hide (docFind_any HX.out.da HX.out.ca.nodup (by have := HX.out.ca.lenN; omega) s)
  unfold findV at HC2
  rw [hav] at HC1 HC2
  simp only at HC1 HC2
  have e1 : (a1 == a1) = true := by simp
  have e2 : (a2 == a2) = true := by simp
  clear hav
  have HSD := hide (HS2.out.below ((Below.refl _ w2).drew))
  have HS3 := hide (HSD.out.more (Nat.le_succ M))
  have HB3 : Hid (Below B w w2.drew) := hide ((HB2.out.mono HBW.out).trans (((Below.refl _ w2).drew).mono HBW2.out))
  obtain ⟨cc, hcc⟩ : ∃ cc, cc = checkI s := ⟨_, rfl⟩
  have HK1 := hide (check_any s w2.drew)
  have HK2 := hide (docCheck_any s w2.drew)
  rw [← hcc] at HK1 HK2
  have e3 : (cc == cc) = true := by simp
  clear hcc
  go_wp2_with fail
  refine (HC1.out).mono ?_
  rintro _ _ ⟨rfl, rfl⟩
  go_wp2_with fail
  refine (HC2.out).mono ?_
  rintro _ _ ⟨rfl, rfl⟩
  obtain ⟨P, hP⟩ : ∃ P : World → Prop, P = fun W => W.cell? ⟨w.heap.size, 2, none⟩ = some (.string s) := ⟨_, rfl⟩
  have hP0 : P w2.drew := by rw [hP]; exact p2
  clear p0 p1 p2 p3
  go_wp2_with fail
  refine wp_region_U 18 P (by kernel_rfl) hP0 (fun hHeld => ?_)
  refine AnyU.take (i := 0) (v := ?v201) rfl (by kernel_rfl) (by kernel_rfl) (by kernel_rfl) (by kernel_rfl) (fun _ _ _ h => h) (Or.inl ⟨by rfl, ?hy201⟩) hHeld ?r201
  case hy201 => (intro w hSw; (try dsimp only at hSw); rw [hP] at hSw; go_simp <;> with_reducible rfl)
  simp only [Act.put, List.setIfInBounds_toArray, List.set_cons_zero, List.set_cons_succ]
  refine AnyU.take (i := 1) (v := ?v202) rfl (by kernel_rfl) (by kernel_rfl) (by kernel_rfl) (by kernel_rfl) (fun _ _ _ h => h) (Or.inl ⟨by rfl, ?hy202⟩) hHeld ?r202
  case hy202 => (intro w hSw; (try dsimp only at hSw); rw [hP] at hSw; go_simp <;> with_reducible rfl)
  simp only [Act.put, List.setIfInBounds_toArray, List.set_cons_zero, List.set_cons_succ]
  refine AnyU.take (i := 2) (v := .bool true) rfl (by kernel_rfl) (by kernel_rfl) (by kernel_rfl) (by kernel_rfl) (fun _ _ _ h => h) (Or.inl ⟨by rfl, ?hy203⟩) hHeld ?r203
  case hy203 => (intro w hSw; (try dsimp only at hSw); rw [hP] at hSw; go_simp <;> first | with_reducible rfl | exact e1 | omega)
  simp only [Act.put, List.setIfInBounds_toArray, List.set_cons_zero, List.set_cons_succ]
  refine AnyU.take (i := 3) (v := ?v204) rfl (by kernel_rfl) (by kernel_rfl) (by kernel_rfl) (by kernel_rfl) (fun _ _ _ h => h) (Or.inl ⟨by rfl, ?hy204⟩) hHeld ?r204
  case hy204 => (intro w hSw; (try dsimp only at hSw); rw [hP] at hSw; go_simp <;> with_reducible rfl)
  simp only [Act.put, List.setIfInBounds_toArray, List.set_cons_zero, List.set_cons_succ]
  refine AnyU.take (i := 4) (v := ?v205) rfl (by kernel_rfl) (by kernel_rfl) (by kernel_rfl) (by kernel_rfl) (fun _ _ _ h => h) (Or.inl ⟨by rfl, ?hy205⟩) hHeld ?r205
  case hy205 => (intro w hSw; (try dsimp only at hSw); rw [hP] at hSw; go_simp <;> with_reducible rfl)
  simp only [Act.put, List.setIfInBounds_toArray, List.set_cons_zero, List.set_cons_succ]
  refine AnyU.take (i := 5) (v := ?v206) rfl (by kernel_rfl) (by kernel_rfl) (by kernel_rfl) (by kernel_rfl) (fun _ _ _ h => h) (Or.inl ⟨by rfl, ?hy206⟩) hHeld ?r206
  case hy206 => (intro w hSw; (try dsimp only at hSw); rw [hP] at hSw; go_simp <;> with_reducible rfl)
  simp only [Act.put, List.setIfInBounds_toArray, List.set_cons_zero, List.set_cons_succ]
  refine AnyU.take (i := 6) (v := .bool true) rfl (by kernel_rfl) (by kernel_rfl) (by kernel_rfl) (by kernel_rfl) (fun _ _ _ h => h) (Or.inl ⟨by rfl, ?hy207⟩) hHeld ?r207
  case hy207 => (intro w hSw; (try dsimp only at hSw); rw [hP] at hSw; go_simp <;> first | with_reducible rfl | exact e2 | omega)
  simp only [Act.put, List.setIfInBounds_toArray, List.set_cons_zero, List.set_cons_succ]
  refine AnyU.take (i := 7) (v := ?v208) rfl (by kernel_rfl) (by kernel_rfl) (by kernel_rfl) (by kernel_rfl) (fun _ _ _ h => h) (Or.inl ⟨by rfl, ?hy208⟩) hHeld ?r208
  case hy208 => (intro w hSw; (try dsimp only at hSw); rw [hP] at hSw; go_simp <;> with_reducible rfl)
  simp only [Act.put, List.setIfInBounds_toArray, List.set_cons_zero, List.set_cons_succ]
  refine AnyU.take (i := 8) (v := ?v209) rfl (by kernel_rfl) (by kernel_rfl) (by kernel_rfl) (by kernel_rfl) (fun _ _ _ h => h) (Or.inl ⟨by rfl, ?hy209⟩) hHeld ?r209
  case hy209 => (intro w hSw; (try dsimp only at hSw); rw [hP] at hSw; go_simp <;> with_reducible rfl)
  simp only [Act.put, List.setIfInBounds_toArray, List.set_cons_zero, List.set_cons_succ]
  refine AnyU.take (i := 9) (v := ?v210) rfl (by kernel_rfl) (by kernel_rfl) (by kernel_rfl) (by kernel_rfl) (fun _ _ _ h => h) (Or.inl ⟨by rfl, ?hy210⟩) hHeld ?r210
  case hy210 => (intro w hSw; (try dsimp only at hSw); rw [hP] at hSw; go_simp <;> with_reducible rfl)
  simp only [Act.put, List.setIfInBounds_toArray, List.set_cons_zero, List.set_cons_succ]
  refine AnyU.take (i := 10) (v := ?v211) rfl (by kernel_rfl) (by kernel_rfl) (by kernel_rfl) (by kernel_rfl) (fun _ _ _ h => h) (Or.inl ⟨by rfl, ?hy211⟩) hHeld ?r211
  case hy211 => (intro w hSw; (try dsimp only at hSw); rw [hP] at hSw; go_simp <;> with_reducible rfl)
  simp only [Act.put, List.setIfInBounds_toArray, List.set_cons_zero, List.set_cons_succ]
  refine AnyU.take (i := 12) (v := ?v212) rfl (by kernel_rfl) (by kernel_rfl) (by kernel_rfl) (by kernel_rfl) (fun _ _ _ h => h) (Or.inl ⟨by rfl, ?hy212⟩) hHeld ?r212
  case hy212 => (intro w hSw; (try dsimp only at hSw); rw [hP] at hSw; go_simp <;> with_reducible rfl)
  simp only [Act.put, List.setIfInBounds_toArray, List.set_cons_zero, List.set_cons_succ]
  refine AnyU.take (i := 13) (v := ?v213) rfl (by kernel_rfl) (by kernel_rfl) (by kernel_rfl) (by kernel_rfl) (fun _ _ _ h => h) (Or.inl ⟨by rfl, ?hy213⟩) hHeld ?r213
  case hy213 => (intro w hSw; (try dsimp only at hSw); rw [hP] at hSw; go_simp <;> with_reducible rfl)
  simp only [Act.put, List.setIfInBounds_toArray, List.set_cons_zero, List.set_cons_succ]
  clear hHeld
  refine AnyU.next (js := [11]) (by kernel_rfl) (by simp) (NextU.cons rfl (fun K hK => ?_) NextU.nil)
  go_simp
  refine (HK1.out).mono ?_
  rintro _ _ ⟨rfl, rfl⟩
  refine hK.out _ _ (fun _ => hP0) (fun hHeld => ?_)
  try simp only [Act.put, List.setIfInBounds_toArray, List.set_cons_zero, List.set_cons_succ]
  clear hK K
  have hHeld := hHeld (by decide)
  clear hHeld
  refine AnyU.next (js := [14]) (by kernel_rfl) (by simp) (NextU.cons rfl (fun K hK => ?_) NextU.nil)
  go_simp
  refine (HK2.out).mono ?_
  rintro _ _ ⟨rfl, rfl⟩
  refine hK.out _ _ (fun _ => hP0) (fun hHeld => ?_)
  try simp only [Act.put, List.setIfInBounds_toArray, List.set_cons_zero, List.set_cons_succ]
  clear hK K
  have hHeld := hHeld (by decide)
  refine AnyU.take (i := 15) (v := .bool true) rfl (by kernel_rfl) (by kernel_rfl) (by kernel_rfl) (by kernel_rfl) (fun _ _ _ h => h) (Or.inl ⟨by rfl, ?hy214⟩) hHeld ?r214
  case hy214 => (intro w hSw; (try dsimp only at hSw); rw [hP] at hSw; go_simp <;> first | with_reducible rfl | exact e3 | omega)
  simp only [Act.put, List.setIfInBounds_toArray, List.set_cons_zero, List.set_cons_succ]
  refine AnyU.take (i := 16) (v := ?v215) rfl (by kernel_rfl) (by kernel_rfl) (by kernel_rfl) (by kernel_rfl) (fun _ _ _ h => h) (Or.inl ⟨by rfl, ?hy215⟩) hHeld ?r215
  case hy215 => (intro w hSw; (try dsimp only at hSw); rw [hP] at hSw; go_simp <;> with_reducible rfl)
  simp only [Act.put, List.setIfInBounds_toArray, List.set_cons_zero, List.set_cons_succ]
  refine AnyU.take (i := 17) (v := ?v216) rfl (by kernel_rfl) (by kernel_rfl) (by kernel_rfl) (by kernel_rfl) (fun _ _ _ h => h) (Or.inl ⟨by rfl, ?hy216⟩) hHeld ?r216
  case hy216 => (intro w hSw; (try dsimp only at hSw); rw [hP] at hSw; go_simp <;> with_reducible rfl)
  simp only [Act.put, List.setIfInBounds_toArray, List.set_cons_zero, List.set_cons_succ]
  clear hHeld
  refine AnyU.over (by kernel_rfl) ?_ _
  go_wp2_with fail
  go_ret
  exact ⟨rfl, X, os, vo, vw, HS3.out, HOS.out, HB3.out⟩

set_option maxRecDepth 100000 in
set_option maxHeartbeats 8000000 in
theorem step3b {B M wp : Nat} {X : Bool → Pr} {os : List Pr} {vo vw : Value} {w : World} (h : StW B M wp X os vo vw w) (hos : os.length ≤ 10) (hB : B ≤ w.heap.size) (on : Int) (s : ByteArray) (n : Int) (hs : s.size ≤ maxLen) {b : Bool} {kb : Nat} (ho : OnW on b kb) (hn : n < 0 ∨ ((X b).l.length : Int) ≤ n) :
    Calls Try.prog 14 #[.pointer (some ⟨wp, 0, none⟩), opS 3 on s n] w (StepP B M wp w) := by
  have HB1 : Hid (Below w.heap.size w (w.alloc (.cells #[.int .i64 3, .int .i64 on, .string s, .int .i64 n] 46))) := hide ((Below.refl _ _).alloc (Nat.le_refl _) _)
  have HX1 := hide (heap_alloc_new w (.cells #[.int .i64 3, .int .i64 on, .string s, .int .i64 n] 46))
  have HS1 := hide (h.below HB1.out)
  have HO := hide ho
  have HLT : Hid (∀ i, (X b).All i → i < w.heap.size) := hide (h.prs.cur b).lt
  have HOS := hide hos
  have HBW := hide hB
  have HSZ := hide hs
  obtain ⟨cT, cR⟩ := ho.cells HS1.out.rows
  obtain ⟨a, c, hr1, hr2, hr3⟩ := ho.rem
  have hk0 : (0 : Int) ≤ (kb : Int) := by omega
  have hk1 : (kb : Int) < 2 := by have := ho.lt; omega
  have hk2 : kb < 2 := ho.lt
  simp only [ptrV] at cT cR
  have p0 := cell_of_row _ _ 0 _ _ (0, 0) HX1.out
  have p1 := cell_of_row _ _ 1 _ _ (0, 0) HX1.out
  have p2 := cell_of_row _ _ 2 _ _ (0, 0) HX1.out
  have p3 := cell_of_row _ _ 3 _ _ (0, 0) HX1.out
  simp only [List.getElem?_toArray, List.getElem?_cons_zero, List.getElem?_cons_succ] at p0 p1 p2 p3
  clear h ho hos hB hs
  simp only [opS]
  go_enter Try.func14, Try.ntmps14
  go_upto_region 2 with fail
  generalize w.alloc (.cells #[.int .i64 3, .int .i64 on, .string s, .int .i64 n] 46) = w1 at *
  go_quiet (fail)
  have HS2 := hide (HS1.out.below (bel_drewN (Below.refl _ _) nq))
  have HB2 : Hid (Below w.heap.size w (w1.drewN nq)) := hide (bel_drewN HB1.out nq)
  have HX2 : Hid ((w1.drewN nq).heap[w.heap.size]? = some (.cells #[.int .i64 3, .int .i64 on, .string s, .int .i64 n] 46 (0, 0))) := hide HX1.out
  clear cT cR p0 p1 p2 p3 HS1 HB1 HX1 hr1 hr2 hr3
  generalize w1.drewN nq = w2 at *
  have p0 := cell_of_row w2 _ 0 _ _ (0, 0) HX2.out
  have p1 := cell_of_row w2 _ 1 _ _ (0, 0) HX2.out
  have p2 := cell_of_row w2 _ 2 _ _ (0, 0) HX2.out
  have p3 := cell_of_row w2 _ 3 _ _ (0, 0) HX2.out
  simp only [List.getElem?_toArray, List.getElem?_cons_zero, List.getElem?_cons_succ] at p0 p1 p2 p3
  have HBW2 : Hid (B ≤ w2.heap.size) := hide (Nat.le_trans HBW.out HB2.out.size)
  have HX := hide (HS2.out.prs.cur b)
  obtain ⟨vA, vc, hvd, _, _, _⟩ := HX.out.da.row.rd
  have HN := hide hn
  have HC1 := hide (name_bad HX.out.ca n hn)
  have HC2 : Hid (∀ W, Below w2.heap.size w2 W → Calls Try.prog 23 #[.pointer (some ⟨(X b).p, 0, none⟩), .int .i64 n] W (BelowPost (.tuple #[.int .i64 0, .bool false]) W)) := hide (fun W hb => short_bad (HX.out.ca.below hb) n HN.out)
  have HC3 : Hid (∀ W, Below w2.heap.size w2 W → Calls Try.prog 33 #[.pointer (some ⟨(X b).q, 0, none⟩), .int .i64 n] W (SameP (.tuple #[.int .i64 0, .bool false]) W)) := hide (fun W hb => docShort_bad (HX.out.da.below hb) n HN.out)
  have HDC : Hid (∀ W, Below w2.heap.size w2 W → W.cell? ⟨(X b).q, 0, none⟩ = some (.slice vA (X b).l.length vc) ∧ W.cell? ⟨w.heap.size, 3, none⟩ = some (.int .i64 n)) := hide (fun W hb => ⟨by rw [(HX.out.da.below hb).cells.1, hvd], by
    have := cell_of_row W _ 3 _ _ (0, 0) ((hb.block _ (lt_of_block HX2.out)).trans HX2.out)
    simpa using this⟩)
  clear hvd hn
  obtain ⟨d0, _⟩ := HDC.out w2 (Below.refl _ _)
  have ee : ((⟨#[]⟩ : ByteArray).toList == (⟨#[]⟩ : ByteArray).toList) = true := by simp
  rcases HN.out with hn0 | hn0
  · have hg : decide (n < 0) = true := decide_eq_true hn0
    have hg1 : decide ((0 : Int) ≤ n) = false := decide_eq_false (by omega)
    go_wp2_with fail
    refine (HC1.out).mono ?_
    rintro _ _ ⟨rfl, rfl⟩
    go_wp2_with fail
    go_quiet (fail)
    have HD0 : Hid (Below w2.heap.size w2 (w2.drewN nq)) := hide (bel_drewN (Below.refl _ _) nq)
    clear p0 p1 p2 p3 d0
    generalize w2.drewN nq = w3 at *
    obtain ⟨d0, p3⟩ := HDC.out w3 HD0.out
    have HC2' := hide (HC2.out w3 HD0.out)
    go_wp2_with fail
    refine (HC2'.out).mono ?_
    rintro _ w4 ⟨rfl, hb4⟩
    have HB4 := hide (HD0.out.trans (hb4.mono HD0.out.size))
    clear hb4 d0 p3
    obtain ⟨d0, p3⟩ := HDC.out w4 HB4.out
    have HC3' := hide (HC3.out w4 HB4.out)
    go_wp2_with fail
    refine (HC3'.out).mono ?_
    rintro _ _ ⟨rfl, rfl⟩
    go_wp2_with fail
    go_quiet (fail)
    have HB5 : Hid (Below w2.heap.size w2 (w4.drewN nq)) := hide (bel_drewN HB4.out nq)
    go_wp2_with fail
    go_ret
    exact ⟨rfl, X, os, vo, vw, (HS2.out.below HB5.out).more (Nat.le_succ M), HOS.out, (HB2.out.mono HBW.out).trans (HB5.out.mono HBW2.out)⟩
  · have hn1 : ¬ n < 0 := by omega
    have hg1 : decide ((0 : Int) ≤ n) = true := decide_eq_true (by omega)
    have hg2 : decide (n < ((X b).l.length : Int)) = false := decide_eq_false (by omega)
    go_wp2_with fail
    refine (HC1.out).mono ?_
    rintro _ _ ⟨rfl, rfl⟩
    go_wp2_with fail
    go_quiet (fail)
    have HD0 : Hid (Below w2.heap.size w2 (w2.drewN nq)) := hide (bel_drewN (Below.refl _ _) nq)
    clear p0 p1 p2 p3 d0
    generalize w2.drewN nq = w3 at *
    obtain ⟨d0, p3⟩ := HDC.out w3 HD0.out
    have HC2' := hide (HC2.out w3 HD0.out)
    go_wp2_with fail
    refine (HC2'.out).mono ?_
    rintro _ w4 ⟨rfl, hb4⟩
    have HB4 := hide (HD0.out.trans (hb4.mono HD0.out.size))
    clear hb4 d0 p3
    obtain ⟨d0, p3⟩ := HDC.out w4 HB4.out
    have HC3' := hide (HC3.out w4 HB4.out)
    go_wp2_with fail
    refine (HC3'.out).mono ?_
    rintro _ _ ⟨rfl, rfl⟩
    go_wp2_with fail
    go_quiet (fail)
    have HB5 : Hid (Below w2.heap.size w2 (w4.drewN nq)) := hide (bel_drewN HB4.out nq)
    go_wp2_with fail
    go_ret
    exact ⟨rfl, X, os, vo, vw, (HS2.out.below HB5.out).more (Nat.le_succ M), HOS.out, (HB2.out.mono HBW.out).trans (HB5.out.mono HBW2.out)⟩

set_option maxRecDepth 100000 in
set_option maxHeartbeats 8000000 in
theorem step3a {B M wp : Nat} {X : Bool → Pr} {os : List Pr} {vo vw : Value} {w : World} (h : StW B M wp X os vo vw w) (hos : os.length ≤ 10) (hB : B ≤ w.heap.size) (on : Int) (s : ByteArray) (n : Int) (hs : s.size ≤ maxLen) {b : Bool} {kb : Nat} (ho : OnW on b kb) {k : Nat} (hn : Hid (n = (k : Int))) {nm : ByteArray} (hnm : Hid ((X b).l[k]? = some nm)) :
    Calls Try.prog 14 #[.pointer (some ⟨wp, 0, none⟩), opS 3 on s n] w (StepP B M wp w) := by
  have HB1 : Hid (Below w.heap.size w (w.alloc (.cells #[.int .i64 3, .int .i64 on, .string s, .int .i64 n] 46))) := hide ((Below.refl _ _).alloc (Nat.le_refl _) _)
  have HX1 := hide (heap_alloc_new w (.cells #[.int .i64 3, .int .i64 on, .string s, .int .i64 n] 46))
  have HS1 := hide (h.below HB1.out)
  have HO := hide ho
  have HLT : Hid (∀ i, (X b).All i → i < w.heap.size) := hide (h.prs.cur b).lt
  have HOS := hide hos
  have HBW := hide hB
  have HSZ := hide hs
  obtain ⟨cT, cR⟩ := ho.cells HS1.out.rows
  obtain ⟨a, c, hr1, hr2, hr3⟩ := ho.rem
  have hk0 : (0 : Int) ≤ (kb : Int) := by omega
  have hk1 : (kb : Int) < 2 := by have := ho.lt; omega
  have hk2 : kb < 2 := ho.lt
  simp only [ptrV] at cT cR
  have p0 := cell_of_row _ _ 0 _ _ (0, 0) HX1.out
  have p1 := cell_of_row _ _ 1 _ _ (0, 0) HX1.out
  have p2 := cell_of_row _ _ 2 _ _ (0, 0) HX1.out
  have p3 := cell_of_row _ _ 3 _ _ (0, 0) HX1.out
  simp only [List.getElem?_toArray, List.getElem?_cons_zero, List.getElem?_cons_succ] at p0 p1 p2 p3
  clear h ho hos hB hs
  simp only [opS]
  go_enter Try.func14, Try.ntmps14
  go_upto_region 2 with fail
  generalize w.alloc (.cells #[.int .i64 3, .int .i64 on, .string s, .int .i64 n] 46) = w1 at *
  go_quiet (fail)
  have HS2 := hide (HS1.out.below (bel_drewN (Below.refl _ _) nq))
  have HB2 : Hid (Below w.heap.size w (w1.drewN nq)) := hide (bel_drewN HB1.out nq)
  have HX2 : Hid ((w1.drewN nq).heap[w.heap.size]? = some (.cells #[.int .i64 3, .int .i64 on, .string s, .int .i64 n] 46 (0, 0))) := hide HX1.out
  clear cT cR p0 p1 p2 p3 HS1 HB1 HX1 hr1 hr2 hr3
  generalize w1.drewN nq = w2 at *
  have p0 := cell_of_row w2 _ 0 _ _ (0, 0) HX2.out
  have p1 := cell_of_row w2 _ 1 _ _ (0, 0) HX2.out
  have p2 := cell_of_row w2 _ 2 _ _ (0, 0) HX2.out
  have p3 := cell_of_row w2 _ 3 _ _ (0, 0) HX2.out
  simp only [List.getElem?_toArray, List.getElem?_cons_zero, List.getElem?_cons_succ] at p0 p1 p2 p3
  have HBW2 : Hid (B ≤ w2.heap.size) := hide (Nat.le_trans HBW.out HB2.out.size)
  have HX := hide (HS2.out.prs.cur b)
  have hn := hn.out
  have hnm := hnm.out
  subst hn
  obtain ⟨vA, vc, hvd, _, _, _⟩ := HX.out.da.row.rd
  have hok := HX.out.ca.get_ok hnm
  have hklt := (List.getElem?_eq_some_iff.1 hnm).1
  have HC1 := hide (name_hit HX.out.ca k nm hnm)
  have HNM := hide hnm
  obtain ⟨e, he⟩ : ∃ e, e = shN (X b).l k (X b).l.length := ⟨_, rfl⟩
  have HC2 : Hid (∀ W, Below w2.heap.size w2 W → Calls Try.prog 23 #[.pointer (some ⟨(X b).p, 0, none⟩), .int .i64 (k : Int)] W (BelowPost (.tuple #[.int .i64 (e : Int), .bool true]) W)) := hide (fun W hb => by rw [he]; exact short_any (HX.out.ca.below hb) k nm HNM.out (HX.out.ca.get_ok HNM.out))
  have HC3 : Hid (∀ W, Below w2.heap.size w2 W → Calls Try.prog 33 #[.pointer (some ⟨(X b).q, 0, none⟩), .int .i64 (k : Int)] W (BelowPost (.tuple #[.int .i64 (e : Int), .bool true]) W)) := hide (fun W hb => by rw [he]; exact docShort_any (HX.out.da.below hb) (by have := HX.out.ca.lenN; omega) HX.out.ca.nodup k nm HNM.out (HX.out.ca.get_ok HNM.out))
  have hdt := HX.out.da.row
  rw [hvd] at hdt
  obtain ⟨g, o, rfl, _, _⟩ := hdt.text hnm
  have HDC : Hid (∀ W, Below w2.heap.size w2 W → W.cell? ⟨(X b).q, 0, none⟩ = some (.slice (some ⟨g, o, none⟩) (X b).l.length vc) ∧ W.cell? ⟨w.heap.size, 3, none⟩ = some (.int .i64 (k : Int)) ∧ W.cell? ⟨g, o + k, none⟩ = some (.string nm)) := hide (fun W hb => by
    have h1 := HX.out.da.below hb
    refine ⟨by rw [h1.cells.1, hvd], by simpa using cell_of_row W _ 3 _ _ (0, 0) ((hb.block _ (lt_of_block HX2.out)).trans HX2.out), ?_⟩
    have h2 := h1.row
    rw [hvd] at h2
    obtain ⟨g', o', e', _, h3⟩ := h2.text HNM.out
    injection e' with e'
    injection e' with e1 e2 _
    subst e1 e2
    exact h3)
  clear hvd hnm hdt he
  obtain ⟨d0, _, d1⟩ := HDC.out w2 (Below.refl _ _)
  have ee : (nm.toList == nm.toList) = true := by simp
  have e1 : ((e : Int) == (e : Int)) = true := by simp
  have hg1 : decide ((0 : Int) ≤ (k : Int)) = true := decide_eq_true (by omega)
  have hg2 : decide ((k : Int) < ((X b).l.length : Int)) = true := decide_eq_true (by omega)
  have hg3 : (0 : Int) ≤ (k : Int) := by omega
  have hg4 : (k : Int) < ((X b).l.length : Int) := by omega
  clear hok hklt
  go_wp2_with fail
  refine (HC1.out).mono ?_
  rintro _ _ ⟨rfl, rfl⟩
  go_wp2_with fail
  go_quiet (fail)
  have HD0 : Hid (Below w2.heap.size w2 (w2.drewN nq)) := hide (bel_drewN (Below.refl _ _) nq)
  clear p0 p1 p2 p3 d0 d1
  generalize w2.drewN nq = w3 at *
  obtain ⟨d0, p3, d1⟩ := HDC.out w3 HD0.out
  have HC2' := hide (HC2.out w3 HD0.out)
  go_wp2_with fail
  refine (HC2'.out).mono ?_
  rintro _ w4 ⟨rfl, hb4⟩
  have HB4 := hide (HD0.out.trans (hb4.mono HD0.out.size))
  clear hb4 d0 p3 d1
  obtain ⟨d0, p3, d1⟩ := HDC.out w4 HB4.out
  have HC3' := hide (HC3.out w4 HB4.out)
  go_wp2_with fail
  refine (HC3'.out).mono ?_
  rintro _ w5 ⟨rfl, hb5⟩
  have HB6 := hide (HB4.out.trans (hb5.mono HB4.out.size))
  clear hb5 d0 p3 d1
  obtain ⟨d0, p3, d1⟩ := HDC.out w5 HB6.out
  go_wp2_with fail
  go_quiet (fail)
  have HB5 : Hid (Below w2.heap.size w2 (w5.drewN nq)) := hide (bel_drewN HB6.out nq)
  go_wp2_with fail
  go_ret
  exact ⟨rfl, X, os, vo, vw, (HS2.out.below HB5.out).more (Nat.le_succ M), HOS.out, (HB2.out.mono HBW.out).trans (HB5.out.mono HBW2.out)⟩

set_option maxRecDepth 100000 in
set_option maxHeartbeats 8000000 in
theorem step7 {B M wp : Nat} {X : Bool → Pr} {os : List Pr} {vo vw : Value} {w : World} (h : StW B M wp X os vo vw w) (hos : os.length ≤ 10) (hB : B ≤ w.heap.size) (on : Int) (s : ByteArray) (n : Int) (hs : s.size ≤ maxLen) {b : Bool} {kb : Nat} (ho : OnW on b kb) :
    Calls Try.prog 14 #[.pointer (some ⟨wp, 0, none⟩), opS 7 on s n] w (StepP B M wp w) := by
  have HB1 : Hid (Below w.heap.size w (w.alloc (.cells #[.int .i64 7, .int .i64 on, .string s, .int .i64 n] 46))) := hide ((Below.refl _ _).alloc (Nat.le_refl _) _)
  have HX1 := hide (heap_alloc_new w (.cells #[.int .i64 7, .int .i64 on, .string s, .int .i64 n] 46))
  have HS1 := hide (h.below HB1.out)
  have HO := hide ho
  have HLT : Hid (∀ i, (X b).All i → i < w.heap.size) := hide (h.prs.cur b).lt
  have HOS := hide hos
  have HBW := hide hB
  have HSZ := hide hs
  obtain ⟨cT, cR⟩ := ho.cells HS1.out.rows
  obtain ⟨a, c, hr1, hr2, hr3⟩ := ho.rem
  have hk0 : (0 : Int) ≤ (kb : Int) := by omega
  have hk1 : (kb : Int) < 2 := by have := ho.lt; omega
  have hk2 : kb < 2 := ho.lt
  simp only [ptrV] at cT cR
  have p0 := cell_of_row _ _ 0 _ _ (0, 0) HX1.out
  have p1 := cell_of_row _ _ 1 _ _ (0, 0) HX1.out
  have p2 := cell_of_row _ _ 2 _ _ (0, 0) HX1.out
  have p3 := cell_of_row _ _ 3 _ _ (0, 0) HX1.out
  simp only [List.getElem?_toArray, List.getElem?_cons_zero, List.getElem?_cons_succ] at p0 p1 p2 p3
  clear h ho hos hB hs
  simp only [opS]
  go_enter Try.func14, Try.ntmps14
  go_upto_region 2 with fail
  generalize w.alloc (.cells #[.int .i64 7, .int .i64 on, .string s, .int .i64 n] 46) = w1 at *
  go_quiet (fail)
  have HS2 := hide (HS1.out.below (bel_drewN (Below.refl _ _) nq))
  have HB2 : Hid (Below w.heap.size w (w1.drewN nq)) := hide (bel_drewN HB1.out nq)
  have HX2 : Hid ((w1.drewN nq).heap[w.heap.size]? = some (.cells #[.int .i64 7, .int .i64 on, .string s, .int .i64 n] 46 (0, 0))) := hide HX1.out
  clear cT cR p0 p1 p2 p3 HS1 HB1 HX1 hr1 hr2 hr3
  generalize w1.drewN nq = w2 at *
  have p0 := cell_of_row w2 _ 0 _ _ (0, 0) HX2.out
  have p1 := cell_of_row w2 _ 1 _ _ (0, 0) HX2.out
  have p2 := cell_of_row w2 _ 2 _ _ (0, 0) HX2.out
  have p3 := cell_of_row w2 _ 3 _ _ (0, 0) HX2.out
  simp only [List.getElem?_toArray, List.getElem?_cons_zero, List.getElem?_cons_succ] at p0 p1 p2 p3
  have HBW2 : Hid (B ≤ w2.heap.size) := hide (Nat.le_trans HBW.out HB2.out.size)
  have HXA := hide (HS2.out.prs.cur false)
  have HXB := hide (HS2.out.prs.cur true)
  obtain ⟨r1, hr1⟩ : ∃ r1, decide ((X false).l = (X true).l) = r1 := ⟨_, rfl⟩
  obtain ⟨r2, hr2⟩ : ∃ r2, decide ((X true).l = (X false).l) = r2 := ⟨_, rfl⟩
  have HC1 : Hid (∀ W, Below w2.heap.size w2 W → Calls Try.prog 16 #[.pointer (some ⟨(X false).p, 0, none⟩), .pointer (some ⟨(X true).p, 0, none⟩)] W (SameP (.bool r1) W)) := hide (fun W hb => by rw [← hr1]; exact same_any (HXA.out.ca.below hb) (HXB.out.ca.below hb))
  have HC2 : Hid (∀ W, Below w2.heap.size w2 W → Calls Try.prog 37 #[.pointer (some ⟨(X false).q, 0, none⟩), .pointer (some ⟨(X true).q, 0, none⟩)] W (BelowPost (.bool r1) W)) := hide (fun W hb => by rw [← hr1]; exact docSame_any (HXA.out.da.below hb) (HXB.out.da.below hb) (by have := HXA.out.ca.lenN; omega) (by have := HXB.out.ca.lenN; omega))
  have HC3 : Hid (∀ W, Below w2.heap.size w2 W → Calls Try.prog 16 #[.pointer (some ⟨(X true).p, 0, none⟩), .pointer (some ⟨(X false).p, 0, none⟩)] W (SameP (.bool r2) W)) := hide (fun W hb => by rw [← hr2]; exact same_any (HXB.out.ca.below hb) (HXA.out.ca.below hb))
  have HC4 : Hid (∀ W, Below w2.heap.size w2 W → Calls Try.prog 37 #[.pointer (some ⟨(X true).q, 0, none⟩), .pointer (some ⟨(X false).q, 0, none⟩)] W (BelowPost (.bool r2) W)) := hide (fun W hb => by rw [← hr2]; exact docSame_any (HXB.out.da.below hb) (HXA.out.da.below hb) (by have := HXB.out.ca.lenN; omega) (by have := HXA.out.ca.lenN; omega))
  have e1 : (r1 == r1) = true := by simp
  have e2 : (r2 == r2) = true := by simp
  clear hr1 hr2
  obtain ⟨P, hP⟩ : ∃ P : World → Prop, P = fun W => W.cell? ⟨wp, 0, none⟩ = some (.pointer (some ⟨(X false).p, 0, none⟩)) ∧ W.cell? ⟨wp, 1, none⟩ = some (.pointer (some ⟨(X true).p, 0, none⟩)) ∧ W.cell? ⟨wp, 2, none⟩ = some (.pointer (some ⟨(X false).q, 0, none⟩)) ∧ W.cell? ⟨wp, 3, none⟩ = some (.pointer (some ⟨(X true).q, 0, none⟩)) := ⟨_, rfl⟩
  have HPW : Hid (∀ W, Below w2.heap.size w2 W → P W) := hide (fun W hb => by rw [hP]; exact (HS2.out.rows.below hb).four)
  have HBD : Hid (Below w2.heap.size w2 w2.drew) := hide ((Below.refl _ w2).drew)
  have hP0 := HPW.out w2.drew HBD.out
  go_wp2_with fail
  refine wp_region_U 49 P (by kernel_rfl) hP0 (fun hHeld => ?_)
  refine AnyU.take (i := 0) (v := ?v901) rfl (by kernel_rfl) (by kernel_rfl) (by kernel_rfl) (by kernel_rfl) (fun _ _ _ h => h) (Or.inl ⟨by rfl, ?hy901⟩) hHeld ?r901
  case hy901 => (intro w hSw; (try dsimp only at hSw); rw [hP] at hSw; obtain ⟨z0, z1, z2, z3⟩ := hSw; go_simp <;> with_reducible rfl)
  simp only [Act.put, List.setIfInBounds_toArray, List.set_cons_zero, List.set_cons_succ]
  refine AnyU.take (i := 1) (v := ?v902) rfl (by kernel_rfl) (by kernel_rfl) (by kernel_rfl) (by kernel_rfl) (fun _ _ _ h => h) (Or.inl ⟨by rfl, ?hy902⟩) hHeld ?r902
  case hy902 => (intro w hSw; (try dsimp only at hSw); rw [hP] at hSw; obtain ⟨z0, z1, z2, z3⟩ := hSw; go_simp <;> with_reducible rfl)
  simp only [Act.put, List.setIfInBounds_toArray, List.set_cons_zero, List.set_cons_succ]
  refine AnyU.take (i := 2) (v := ?v903) rfl (by kernel_rfl) (by kernel_rfl) (by kernel_rfl) (by kernel_rfl) (fun _ _ _ h => h) (Or.inl ⟨by rfl, ?hy903⟩) hHeld ?r903
  case hy903 => (intro w hSw; (try dsimp only at hSw); rw [hP] at hSw; obtain ⟨z0, z1, z2, z3⟩ := hSw; go_simp <;> with_reducible rfl)
  simp only [Act.put, List.setIfInBounds_toArray, List.set_cons_zero, List.set_cons_succ]
  refine AnyU.take (i := 3) (v := ?v904) rfl (by kernel_rfl) (by kernel_rfl) (by kernel_rfl) (by kernel_rfl) (fun _ _ _ h => h) (Or.inl ⟨by rfl, ?hy904⟩) hHeld ?r904
  case hy904 => (intro w hSw; (try dsimp only at hSw); rw [hP] at hSw; obtain ⟨z0, z1, z2, z3⟩ := hSw; go_simp <;> with_reducible rfl)
  simp only [Act.put, List.setIfInBounds_toArray, List.set_cons_zero, List.set_cons_succ]
  refine AnyU.take (i := 4) (v := ?v905) rfl (by kernel_rfl) (by kernel_rfl) (by kernel_rfl) (by kernel_rfl) (fun _ _ _ h => h) (Or.inl ⟨by rfl, ?hy905⟩) hHeld ?r905
  case hy905 => (intro w hSw; (try dsimp only at hSw); rw [hP] at hSw; obtain ⟨z0, z1, z2, z3⟩ := hSw; go_simp <;> with_reducible rfl)
  simp only [Act.put, List.setIfInBounds_toArray, List.set_cons_zero, List.set_cons_succ]
  refine AnyU.take (i := 5) (v := ?v906) rfl (by kernel_rfl) (by kernel_rfl) (by kernel_rfl) (by kernel_rfl) (fun _ _ _ h => h) (Or.inl ⟨by rfl, ?hy906⟩) hHeld ?r906
  case hy906 => (intro w hSw; (try dsimp only at hSw); rw [hP] at hSw; obtain ⟨z0, z1, z2, z3⟩ := hSw; go_simp <;> with_reducible rfl)
  simp only [Act.put, List.setIfInBounds_toArray, List.set_cons_zero, List.set_cons_succ]
  refine AnyU.take (i := 6) (v := ?v907) rfl (by kernel_rfl) (by kernel_rfl) (by kernel_rfl) (by kernel_rfl) (fun _ _ _ h => h) (Or.inl ⟨by rfl, ?hy907⟩) hHeld ?r907
  case hy907 => (intro w hSw; (try dsimp only at hSw); rw [hP] at hSw; obtain ⟨z0, z1, z2, z3⟩ := hSw; go_simp <;> with_reducible rfl)
  simp only [Act.put, List.setIfInBounds_toArray, List.set_cons_zero, List.set_cons_succ]
  refine AnyU.take (i := 7) (v := ?v908) rfl (by kernel_rfl) (by kernel_rfl) (by kernel_rfl) (by kernel_rfl) (fun _ _ _ h => h) (Or.inl ⟨by rfl, ?hy908⟩) hHeld ?r908
  case hy908 => (intro w hSw; (try dsimp only at hSw); rw [hP] at hSw; obtain ⟨z0, z1, z2, z3⟩ := hSw; go_simp <;> with_reducible rfl)
  simp only [Act.put, List.setIfInBounds_toArray, List.set_cons_zero, List.set_cons_succ]
  refine AnyU.take (i := 8) (v := ?v909) rfl (by kernel_rfl) (by kernel_rfl) (by kernel_rfl) (by kernel_rfl) (fun _ _ _ h => h) (Or.inl ⟨by rfl, ?hy909⟩) hHeld ?r909
  case hy909 => (intro w hSw; (try dsimp only at hSw); rw [hP] at hSw; obtain ⟨z0, z1, z2, z3⟩ := hSw; go_simp <;> with_reducible rfl)
  simp only [Act.put, List.setIfInBounds_toArray, List.set_cons_zero, List.set_cons_succ]
  refine AnyU.take (i := 9) (v := ?v910) rfl (by kernel_rfl) (by kernel_rfl) (by kernel_rfl) (by kernel_rfl) (fun _ _ _ h => h) (Or.inl ⟨by rfl, ?hy910⟩) hHeld ?r910
  case hy910 => (intro w hSw; (try dsimp only at hSw); rw [hP] at hSw; obtain ⟨z0, z1, z2, z3⟩ := hSw; go_simp <;> with_reducible rfl)
  simp only [Act.put, List.setIfInBounds_toArray, List.set_cons_zero, List.set_cons_succ]
  refine AnyU.take (i := 11) (v := ?v911) rfl (by kernel_rfl) (by kernel_rfl) (by kernel_rfl) (by kernel_rfl) (fun _ _ _ h => h) (Or.inl ⟨by rfl, ?hy911⟩) hHeld ?r911
  case hy911 => (intro w hSw; (try dsimp only at hSw); rw [hP] at hSw; obtain ⟨z0, z1, z2, z3⟩ := hSw; go_simp <;> with_reducible rfl)
  simp only [Act.put, List.setIfInBounds_toArray, List.set_cons_zero, List.set_cons_succ]
  refine AnyU.take (i := 12) (v := ?v912) rfl (by kernel_rfl) (by kernel_rfl) (by kernel_rfl) (by kernel_rfl) (fun _ _ _ h => h) (Or.inl ⟨by rfl, ?hy912⟩) hHeld ?r912
  case hy912 => (intro w hSw; (try dsimp only at hSw); rw [hP] at hSw; obtain ⟨z0, z1, z2, z3⟩ := hSw; go_simp <;> with_reducible rfl)
  simp only [Act.put, List.setIfInBounds_toArray, List.set_cons_zero, List.set_cons_succ]
  refine AnyU.take (i := 13) (v := ?v913) rfl (by kernel_rfl) (by kernel_rfl) (by kernel_rfl) (by kernel_rfl) (fun _ _ _ h => h) (Or.inl ⟨by rfl, ?hy913⟩) hHeld ?r913
  case hy913 => (intro w hSw; (try dsimp only at hSw); rw [hP] at hSw; obtain ⟨z0, z1, z2, z3⟩ := hSw; go_simp <;> with_reducible rfl)
  simp only [Act.put, List.setIfInBounds_toArray, List.set_cons_zero, List.set_cons_succ]
  refine AnyU.take (i := 14) (v := ?v914) rfl (by kernel_rfl) (by kernel_rfl) (by kernel_rfl) (by kernel_rfl) (fun _ _ _ h => h) (Or.inl ⟨by rfl, ?hy914⟩) hHeld ?r914
  case hy914 => (intro w hSw; (try dsimp only at hSw); rw [hP] at hSw; obtain ⟨z0, z1, z2, z3⟩ := hSw; go_simp <;> with_reducible rfl)
  simp only [Act.put, List.setIfInBounds_toArray, List.set_cons_zero, List.set_cons_succ]
  refine AnyU.take (i := 15) (v := ?v915) rfl (by kernel_rfl) (by kernel_rfl) (by kernel_rfl) (by kernel_rfl) (fun _ _ _ h => h) (Or.inl ⟨by rfl, ?hy915⟩) hHeld ?r915
  case hy915 => (intro w hSw; (try dsimp only at hSw); rw [hP] at hSw; obtain ⟨z0, z1, z2, z3⟩ := hSw; go_simp <;> with_reducible rfl)
  simp only [Act.put, List.setIfInBounds_toArray, List.set_cons_zero, List.set_cons_succ]
  refine AnyU.take (i := 16) (v := ?v916) rfl (by kernel_rfl) (by kernel_rfl) (by kernel_rfl) (by kernel_rfl) (fun _ _ _ h => h) (Or.inl ⟨by rfl, ?hy916⟩) hHeld ?r916
  case hy916 => (intro w hSw; (try dsimp only at hSw); rw [hP] at hSw; obtain ⟨z0, z1, z2, z3⟩ := hSw; go_simp <;> with_reducible rfl)
  simp only [Act.put, List.setIfInBounds_toArray, List.set_cons_zero, List.set_cons_succ]
  refine AnyU.take (i := 17) (v := ?v917) rfl (by kernel_rfl) (by kernel_rfl) (by kernel_rfl) (by kernel_rfl) (fun _ _ _ h => h) (Or.inl ⟨by rfl, ?hy917⟩) hHeld ?r917
  case hy917 => (intro w hSw; (try dsimp only at hSw); rw [hP] at hSw; obtain ⟨z0, z1, z2, z3⟩ := hSw; go_simp <;> with_reducible rfl)
  simp only [Act.put, List.setIfInBounds_toArray, List.set_cons_zero, List.set_cons_succ]
  refine AnyU.take (i := 18) (v := ?v918) rfl (by kernel_rfl) (by kernel_rfl) (by kernel_rfl) (by kernel_rfl) (fun _ _ _ h => h) (Or.inl ⟨by rfl, ?hy918⟩) hHeld ?r918
  case hy918 => (intro w hSw; (try dsimp only at hSw); rw [hP] at hSw; obtain ⟨z0, z1, z2, z3⟩ := hSw; go_simp <;> with_reducible rfl)
  simp only [Act.put, List.setIfInBounds_toArray, List.set_cons_zero, List.set_cons_succ]
  refine AnyU.take (i := 19) (v := ?v919) rfl (by kernel_rfl) (by kernel_rfl) (by kernel_rfl) (by kernel_rfl) (fun _ _ _ h => h) (Or.inl ⟨by rfl, ?hy919⟩) hHeld ?r919
  case hy919 => (intro w hSw; (try dsimp only at hSw); rw [hP] at hSw; obtain ⟨z0, z1, z2, z3⟩ := hSw; go_simp <;> with_reducible rfl)
  simp only [Act.put, List.setIfInBounds_toArray, List.set_cons_zero, List.set_cons_succ]
  refine AnyU.take (i := 20) (v := ?v920) rfl (by kernel_rfl) (by kernel_rfl) (by kernel_rfl) (by kernel_rfl) (fun _ _ _ h => h) (Or.inl ⟨by rfl, ?hy920⟩) hHeld ?r920
  case hy920 => (intro w hSw; (try dsimp only at hSw); rw [hP] at hSw; obtain ⟨z0, z1, z2, z3⟩ := hSw; go_simp <;> with_reducible rfl)
  simp only [Act.put, List.setIfInBounds_toArray, List.set_cons_zero, List.set_cons_succ]
  clear hHeld
  refine AnyU.next (js := [10]) (by kernel_rfl) (by simp) (NextU.cons rfl (fun K hK => ?_) NextU.nil)
  go_simp
  refine (HC1.out _ HBD.out).mono ?_
  rintro _ _ ⟨rfl, rfl⟩
  refine hK.out _ _ (fun _ => hP0) (fun hHeld => ?_)
  try simp only [Act.put, List.setIfInBounds_toArray, List.set_cons_zero, List.set_cons_succ]
  clear hK K
  have hHeld := hHeld (by decide)
  clear hHeld
  refine AnyU.next (js := [21]) (by kernel_rfl) (by simp) (NextU.cons rfl (fun K hK => ?_) NextU.nil)
  go_simp
  refine (HC2.out _ HBD.out).mono ?_
  rintro _ W3 ⟨rfl, hb3⟩
  have HB3 := hide (HBD.out.trans (hb3.mono HBD.out.size))
  clear hb3
  refine hK.out _ _ (fun _ => (HPW.out W3 HB3.out)) (fun hHeld => ?_)
  try simp only [Act.put, List.setIfInBounds_toArray, List.set_cons_zero, List.set_cons_succ]
  clear hK K
  have hHeld := hHeld (by decide)
  refine AnyU.take (i := 22) (v := .bool true) rfl (by kernel_rfl) (by kernel_rfl) (by kernel_rfl) (by kernel_rfl) (fun _ _ _ h => h) (Or.inl ⟨by rfl, ?hy921⟩) hHeld ?r921
  case hy921 => (intro w hSw; (try dsimp only at hSw); rw [hP] at hSw; obtain ⟨z0, z1, z2, z3⟩ := hSw; go_simp <;> first | with_reducible rfl | exact e1 | omega)
  simp only [Act.put, List.setIfInBounds_toArray, List.set_cons_zero, List.set_cons_succ]
  refine AnyU.take (i := 23) (v := ?v922) rfl (by kernel_rfl) (by kernel_rfl) (by kernel_rfl) (by kernel_rfl) (fun _ _ _ h => h) (Or.inl ⟨by rfl, ?hy922⟩) hHeld ?r922
  case hy922 => (intro w hSw; (try dsimp only at hSw); rw [hP] at hSw; obtain ⟨z0, z1, z2, z3⟩ := hSw; go_simp <;> with_reducible rfl)
  simp only [Act.put, List.setIfInBounds_toArray, List.set_cons_zero, List.set_cons_succ]
  refine AnyU.take (i := 24) (v := ?v923) rfl (by kernel_rfl) (by kernel_rfl) (by kernel_rfl) (by kernel_rfl) (fun _ _ _ h => h) (Or.inl ⟨by rfl, ?hy923⟩) hHeld ?r923
  case hy923 => (intro w hSw; (try dsimp only at hSw); rw [hP] at hSw; obtain ⟨z0, z1, z2, z3⟩ := hSw; go_simp <;> with_reducible rfl)
  simp only [Act.put, List.setIfInBounds_toArray, List.set_cons_zero, List.set_cons_succ]
  refine AnyU.take (i := 25) (v := ?v924) rfl (by kernel_rfl) (by kernel_rfl) (by kernel_rfl) (by kernel_rfl) (fun _ _ _ h => h) (Or.inl ⟨by rfl, ?hy924⟩) hHeld ?r924
  case hy924 => (intro w hSw; (try dsimp only at hSw); rw [hP] at hSw; obtain ⟨z0, z1, z2, z3⟩ := hSw; go_simp <;> with_reducible rfl)
  simp only [Act.put, List.setIfInBounds_toArray, List.set_cons_zero, List.set_cons_succ]
  refine AnyU.take (i := 26) (v := ?v925) rfl (by kernel_rfl) (by kernel_rfl) (by kernel_rfl) (by kernel_rfl) (fun _ _ _ h => h) (Or.inl ⟨by rfl, ?hy925⟩) hHeld ?r925
  case hy925 => (intro w hSw; (try dsimp only at hSw); rw [hP] at hSw; obtain ⟨z0, z1, z2, z3⟩ := hSw; go_simp <;> with_reducible rfl)
  simp only [Act.put, List.setIfInBounds_toArray, List.set_cons_zero, List.set_cons_succ]
  refine AnyU.take (i := 27) (v := ?v926) rfl (by kernel_rfl) (by kernel_rfl) (by kernel_rfl) (by kernel_rfl) (fun _ _ _ h => h) (Or.inl ⟨by rfl, ?hy926⟩) hHeld ?r926
  case hy926 => (intro w hSw; (try dsimp only at hSw); rw [hP] at hSw; obtain ⟨z0, z1, z2, z3⟩ := hSw; go_simp <;> with_reducible rfl)
  simp only [Act.put, List.setIfInBounds_toArray, List.set_cons_zero, List.set_cons_succ]
  refine AnyU.take (i := 28) (v := ?v927) rfl (by kernel_rfl) (by kernel_rfl) (by kernel_rfl) (by kernel_rfl) (fun _ _ _ h => h) (Or.inl ⟨by rfl, ?hy927⟩) hHeld ?r927
  case hy927 => (intro w hSw; (try dsimp only at hSw); rw [hP] at hSw; obtain ⟨z0, z1, z2, z3⟩ := hSw; go_simp <;> with_reducible rfl)
  simp only [Act.put, List.setIfInBounds_toArray, List.set_cons_zero, List.set_cons_succ]
  refine AnyU.take (i := 29) (v := ?v928) rfl (by kernel_rfl) (by kernel_rfl) (by kernel_rfl) (by kernel_rfl) (fun _ _ _ h => h) (Or.inl ⟨by rfl, ?hy928⟩) hHeld ?r928
  case hy928 => (intro w hSw; (try dsimp only at hSw); rw [hP] at hSw; obtain ⟨z0, z1, z2, z3⟩ := hSw; go_simp <;> with_reducible rfl)
  simp only [Act.put, List.setIfInBounds_toArray, List.set_cons_zero, List.set_cons_succ]
  refine AnyU.take (i := 30) (v := ?v929) rfl (by kernel_rfl) (by kernel_rfl) (by kernel_rfl) (by kernel_rfl) (fun _ _ _ h => h) (Or.inl ⟨by rfl, ?hy929⟩) hHeld ?r929
  case hy929 => (intro w hSw; (try dsimp only at hSw); rw [hP] at hSw; obtain ⟨z0, z1, z2, z3⟩ := hSw; go_simp <;> with_reducible rfl)
  simp only [Act.put, List.setIfInBounds_toArray, List.set_cons_zero, List.set_cons_succ]
  refine AnyU.take (i := 31) (v := ?v930) rfl (by kernel_rfl) (by kernel_rfl) (by kernel_rfl) (by kernel_rfl) (fun _ _ _ h => h) (Or.inl ⟨by rfl, ?hy930⟩) hHeld ?r930
  case hy930 => (intro w hSw; (try dsimp only at hSw); rw [hP] at hSw; obtain ⟨z0, z1, z2, z3⟩ := hSw; go_simp <;> with_reducible rfl)
  simp only [Act.put, List.setIfInBounds_toArray, List.set_cons_zero, List.set_cons_succ]
  refine AnyU.take (i := 32) (v := ?v931) rfl (by kernel_rfl) (by kernel_rfl) (by kernel_rfl) (by kernel_rfl) (fun _ _ _ h => h) (Or.inl ⟨by rfl, ?hy931⟩) hHeld ?r931
  case hy931 => (intro w hSw; (try dsimp only at hSw); rw [hP] at hSw; obtain ⟨z0, z1, z2, z3⟩ := hSw; go_simp <;> with_reducible rfl)
  simp only [Act.put, List.setIfInBounds_toArray, List.set_cons_zero, List.set_cons_succ]
  refine AnyU.take (i := 33) (v := ?v932) rfl (by kernel_rfl) (by kernel_rfl) (by kernel_rfl) (by kernel_rfl) (fun _ _ _ h => h) (Or.inl ⟨by rfl, ?hy932⟩) hHeld ?r932
  case hy932 => (intro w hSw; (try dsimp only at hSw); rw [hP] at hSw; obtain ⟨z0, z1, z2, z3⟩ := hSw; go_simp <;> with_reducible rfl)
  simp only [Act.put, List.setIfInBounds_toArray, List.set_cons_zero, List.set_cons_succ]
  refine AnyU.take (i := 35) (v := ?v933) rfl (by kernel_rfl) (by kernel_rfl) (by kernel_rfl) (by kernel_rfl) (fun _ _ _ h => h) (Or.inl ⟨by rfl, ?hy933⟩) hHeld ?r933
  case hy933 => (intro w hSw; (try dsimp only at hSw); rw [hP] at hSw; obtain ⟨z0, z1, z2, z3⟩ := hSw; go_simp <;> with_reducible rfl)
  simp only [Act.put, List.setIfInBounds_toArray, List.set_cons_zero, List.set_cons_succ]
  refine AnyU.take (i := 36) (v := ?v934) rfl (by kernel_rfl) (by kernel_rfl) (by kernel_rfl) (by kernel_rfl) (fun _ _ _ h => h) (Or.inl ⟨by rfl, ?hy934⟩) hHeld ?r934
  case hy934 => (intro w hSw; (try dsimp only at hSw); rw [hP] at hSw; obtain ⟨z0, z1, z2, z3⟩ := hSw; go_simp <;> with_reducible rfl)
  simp only [Act.put, List.setIfInBounds_toArray, List.set_cons_zero, List.set_cons_succ]
  refine AnyU.take (i := 37) (v := ?v935) rfl (by kernel_rfl) (by kernel_rfl) (by kernel_rfl) (by kernel_rfl) (fun _ _ _ h => h) (Or.inl ⟨by rfl, ?hy935⟩) hHeld ?r935
  case hy935 => (intro w hSw; (try dsimp only at hSw); rw [hP] at hSw; obtain ⟨z0, z1, z2, z3⟩ := hSw; go_simp <;> with_reducible rfl)
  simp only [Act.put, List.setIfInBounds_toArray, List.set_cons_zero, List.set_cons_succ]
  refine AnyU.take (i := 38) (v := ?v936) rfl (by kernel_rfl) (by kernel_rfl) (by kernel_rfl) (by kernel_rfl) (fun _ _ _ h => h) (Or.inl ⟨by rfl, ?hy936⟩) hHeld ?r936
  case hy936 => (intro w hSw; (try dsimp only at hSw); rw [hP] at hSw; obtain ⟨z0, z1, z2, z3⟩ := hSw; go_simp <;> with_reducible rfl)
  simp only [Act.put, List.setIfInBounds_toArray, List.set_cons_zero, List.set_cons_succ]
  refine AnyU.take (i := 39) (v := ?v937) rfl (by kernel_rfl) (by kernel_rfl) (by kernel_rfl) (by kernel_rfl) (fun _ _ _ h => h) (Or.inl ⟨by rfl, ?hy937⟩) hHeld ?r937
  case hy937 => (intro w hSw; (try dsimp only at hSw); rw [hP] at hSw; obtain ⟨z0, z1, z2, z3⟩ := hSw; go_simp <;> with_reducible rfl)
  simp only [Act.put, List.setIfInBounds_toArray, List.set_cons_zero, List.set_cons_succ]
  refine AnyU.take (i := 40) (v := ?v938) rfl (by kernel_rfl) (by kernel_rfl) (by kernel_rfl) (by kernel_rfl) (fun _ _ _ h => h) (Or.inl ⟨by rfl, ?hy938⟩) hHeld ?r938
  case hy938 => (intro w hSw; (try dsimp only at hSw); rw [hP] at hSw; obtain ⟨z0, z1, z2, z3⟩ := hSw; go_simp <;> with_reducible rfl)
  simp only [Act.put, List.setIfInBounds_toArray, List.set_cons_zero, List.set_cons_succ]
  refine AnyU.take (i := 41) (v := ?v939) rfl (by kernel_rfl) (by kernel_rfl) (by kernel_rfl) (by kernel_rfl) (fun _ _ _ h => h) (Or.inl ⟨by rfl, ?hy939⟩) hHeld ?r939
  case hy939 => (intro w hSw; (try dsimp only at hSw); rw [hP] at hSw; obtain ⟨z0, z1, z2, z3⟩ := hSw; go_simp <;> with_reducible rfl)
  simp only [Act.put, List.setIfInBounds_toArray, List.set_cons_zero, List.set_cons_succ]
  refine AnyU.take (i := 42) (v := ?v940) rfl (by kernel_rfl) (by kernel_rfl) (by kernel_rfl) (by kernel_rfl) (fun _ _ _ h => h) (Or.inl ⟨by rfl, ?hy940⟩) hHeld ?r940
  case hy940 => (intro w hSw; (try dsimp only at hSw); rw [hP] at hSw; obtain ⟨z0, z1, z2, z3⟩ := hSw; go_simp <;> with_reducible rfl)
  simp only [Act.put, List.setIfInBounds_toArray, List.set_cons_zero, List.set_cons_succ]
  refine AnyU.take (i := 43) (v := ?v941) rfl (by kernel_rfl) (by kernel_rfl) (by kernel_rfl) (by kernel_rfl) (fun _ _ _ h => h) (Or.inl ⟨by rfl, ?hy941⟩) hHeld ?r941
  case hy941 => (intro w hSw; (try dsimp only at hSw); rw [hP] at hSw; obtain ⟨z0, z1, z2, z3⟩ := hSw; go_simp <;> with_reducible rfl)
  simp only [Act.put, List.setIfInBounds_toArray, List.set_cons_zero, List.set_cons_succ]
  refine AnyU.take (i := 44) (v := ?v942) rfl (by kernel_rfl) (by kernel_rfl) (by kernel_rfl) (by kernel_rfl) (fun _ _ _ h => h) (Or.inl ⟨by rfl, ?hy942⟩) hHeld ?r942
  case hy942 => (intro w hSw; (try dsimp only at hSw); rw [hP] at hSw; obtain ⟨z0, z1, z2, z3⟩ := hSw; go_simp <;> with_reducible rfl)
  simp only [Act.put, List.setIfInBounds_toArray, List.set_cons_zero, List.set_cons_succ]
  clear hHeld
  refine AnyU.next (js := [34]) (by kernel_rfl) (by simp) (NextU.cons rfl (fun K hK => ?_) NextU.nil)
  go_simp
  refine (HC3.out _ HB3.out).mono ?_
  rintro _ _ ⟨rfl, rfl⟩
  refine hK.out _ _ (fun _ => (HPW.out _ HB3.out)) (fun hHeld => ?_)
  try simp only [Act.put, List.setIfInBounds_toArray, List.set_cons_zero, List.set_cons_succ]
  clear hK K
  have hHeld := hHeld (by decide)
  clear hHeld
  refine AnyU.next (js := [45]) (by kernel_rfl) (by simp) (NextU.cons rfl (fun K hK => ?_) NextU.nil)
  go_simp
  refine (HC4.out _ HB3.out).mono ?_
  rintro _ W4 ⟨rfl, hb4⟩
  have HB4 := hide (HB3.out.trans (hb4.mono HB3.out.size))
  clear hb4
  refine hK.out _ _ (fun _ => (HPW.out W4 HB4.out)) (fun hHeld => ?_)
  try simp only [Act.put, List.setIfInBounds_toArray, List.set_cons_zero, List.set_cons_succ]
  clear hK K
  have hHeld := hHeld (by decide)
  refine AnyU.take (i := 46) (v := .bool true) rfl (by kernel_rfl) (by kernel_rfl) (by kernel_rfl) (by kernel_rfl) (fun _ _ _ h => h) (Or.inl ⟨by rfl, ?hy943⟩) hHeld ?r943
  case hy943 => (intro w hSw; (try dsimp only at hSw); rw [hP] at hSw; obtain ⟨z0, z1, z2, z3⟩ := hSw; go_simp <;> first | with_reducible rfl | exact e2 | omega)
  simp only [Act.put, List.setIfInBounds_toArray, List.set_cons_zero, List.set_cons_succ]
  refine AnyU.take (i := 47) (v := ?v944) rfl (by kernel_rfl) (by kernel_rfl) (by kernel_rfl) (by kernel_rfl) (fun _ _ _ h => h) (Or.inl ⟨by rfl, ?hy944⟩) hHeld ?r944
  case hy944 => (intro w hSw; (try dsimp only at hSw); rw [hP] at hSw; obtain ⟨z0, z1, z2, z3⟩ := hSw; go_simp <;> with_reducible rfl)
  simp only [Act.put, List.setIfInBounds_toArray, List.set_cons_zero, List.set_cons_succ]
  refine AnyU.take (i := 48) (v := ?v945) rfl (by kernel_rfl) (by kernel_rfl) (by kernel_rfl) (by kernel_rfl) (fun _ _ _ h => h) (Or.inl ⟨by rfl, ?hy945⟩) hHeld ?r945
  case hy945 => (intro w hSw; (try dsimp only at hSw); rw [hP] at hSw; obtain ⟨z0, z1, z2, z3⟩ := hSw; go_simp <;> with_reducible rfl)
  simp only [Act.put, List.setIfInBounds_toArray, List.set_cons_zero, List.set_cons_succ]
  clear hHeld
  refine AnyU.over (by kernel_rfl) ?_ _
  go_wp2_with fail
  go_ret
  exact ⟨rfl, X, os, vo, vw, (HS2.out.below HB4.out).more (Nat.le_succ M), HOS.out, (HB2.out.mono HBW.out).trans (HB4.out.mono HBW2.out)⟩

end Go.Proofs.Ytkidefmkgcankaa
