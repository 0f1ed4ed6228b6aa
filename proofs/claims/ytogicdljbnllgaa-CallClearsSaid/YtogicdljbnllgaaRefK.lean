/- The walk of gavelref13.Clear. -/
import Derived.Test.YtogicdljbnllgaaRefC
namespace Go.Proofs.Ytogicdljbnllgaa
open Go.Shelf Go.RowKit Go.Lib Go.Sort Go.Proofs

/-- And the rows of shares. -/
structure RcR (w : World) (p8 p9 : Nat) (A : Option Addr) (c : Nat) (b : List (Int × Int)) (O : Option Addr) (co : Nat) (A' : Option Addr) (c' : Nat) (s : List (Int × Int)) (O' : Option Addr) (co' : Nat) (g1 g2 : Nat) (l1 l2 : List Int) (cs : Array Value) (W : World) : Prop where
  ng : g1 ≠ g2 ∧ w.heap.size + 2 ≤ g1 ∧ w.heap.size + 2 ≤ g2
  r1 : W.heap[g1]? = some (.cells (rowI l1) 3 (0, 0))
  r2 : W.heap[g2]? = some (.cells (rowI l2) 3 (0, 0))
  rc : RcS w p8 p9 A c b O co A' c' s O' co' cs W
section
variable {w W W' : World} {p8 p9 : Nat} {A : Option Addr} {c : Nat} {b : List (Int × Int)} {O : Option Addr} {co : Nat} {A' : Option Addr} {c' : Nat} {s : List (Int × Int)} {O' : Option Addr} {co' g1 g2 : Nat} {l1 l2 : List Int} {cs : Array Value}
theorem RcR.below (h : RcR w p8 p9 A c b O co A' c' s O' co' g1 g2 l1 l2 cs W) (hb : Below W.heap.size W W') : RcR w p8 p9 A c b O co A' c' s O' co' g1 g2 l1 l2 cs W' :=
  ⟨h.ng, (hb.block _ (lt_of_block h.r1)).trans h.r1, (hb.block _ (lt_of_block h.r2)).trans h.r2, h.rc.below hb⟩
theorem RcR.drewN (h : RcR w p8 p9 A c b O co A' c' s O' co' g1 g2 l1 l2 cs W) (k : Nat) : RcR w p8 p9 A c b O co A' c' s O' co' g1 g2 l1 l2 cs (W.drewN k) := h.below (below_drewN (Below.refl _ _) k)
theorem RcR.setc (h : RcR w p8 p9 A c b O co A' c' s O' co' g1 g2 l1 l2 cs W) (i : Nat) (v : Value) : RcR w p8 p9 A c b O co A' c' s O' co' g1 g2 l1 l2 (cs.setIfInBounds i v) (W.setCell ⟨w.heap.size + 1, i, none⟩ v) :=
  ⟨h.ng, (Below.heap_setCell _ _ _ _ (by have := h.ng; show g1 ≠ w.heap.size + 1; omega)).trans h.r1, (Below.heap_setCell _ _ _ _ (by have := h.ng; show g2 ≠ w.heap.size + 1; omega)).trans h.r2, h.rc.setc i v⟩
end
abbrev six (pr tr lo hi : Int) (g1 n g2 m : Nat) : Array Value := #[.int .i64 pr, .int .i64 tr, .int .i64 lo, .int .i64 hi, .slice (some ⟨g1, 0, none⟩) n n, .slice (some ⟨g2, 0, none⟩) m m]
/-- What is answered at the last. -/
theorem rc_end {w W : World} {p8 p9 : Nat} {A : Option Addr} {c : Nat} {b : List (Int × Int)} {O : Option Addr} {co : Nat} {A' : Option Addr} {c' : Nat} {s : List (Int × Int)} {O' : Option Addr} {co' g1 g2 : Nat} {l1 l2 : List Int} {pr tr lo hi : Int} (h : RcR w p8 p9 A c b O co A' c' s O' co' g1 g2 l1 l2 (six pr tr lo hi g1 b.length g2 s.length) W) (hk : checkI b s = 0) (hc : clrOf b.length s.length (RunA b s) = (pr, tr, lo, hi, l1, l2)) (hl : l1.length = b.length ∧ l2.length = s.length)
    {W2 : World} (hb : Below w.heap.size w W2) (h2 : ∀ k, w.heap.size + 1 ≤ k → W2.heap[k]? = W.heap[k]?) : ClearP b s w (.returned (.tuple #[.agg (six pr tr lo hi g1 b.length g2 s.length), .int .i64 0])) W2 := by
  refine ⟨hb, .inr ⟨hk, g1, g2, ?_, h.ng.1, by have := h.ng; omega, by have := h.ng; omega, ?_, ?_⟩⟩
  · rw [hc]
    unfold calledV
    simp only [hl.1, hl.2]
  · rw [hc, h2 g1 (by have := h.ng; omega)]
    exact h.r1
  · rw [hc, h2 g2 (by have := h.ng; omega)]
    exact h.r2

set_option maxRecDepth 100000 in
set_option maxHeartbeats 16000000 in
theorem refclear_any (A : Option Addr) (c : Nat) (b : List (Int × Int)) (A' : Option Addr) (c' : Nat) (s : List (Int × Int)) (w : World) (h : Wants w w.heap.size A b) (h' : Wants w w.heap.size A' s) :
    Calls Try.prog 12 #[.slice A b.length c, .slice A' s.length c'] w (ClearP b s w) := by
  obtain ⟨t0, t1, t2⟩ := two_boxes w (.cells zeroC 28) (.cells zeroC 28)
  have HT0 := hide t0
  have HT1 := hide t1
  have HT2 := hide t2
  have HW := hide h
  have HW' := hide h'
  have HC := hide (refcheck_any A c b A' c' s ((w.alloc (.cells zeroC 28)).alloc (.cells zeroC 28)) ((h.below t2).more t2.size) ((h'.below t2).more t2.size))
  clear t0 t1 t2 h h'
  go_enter Try.func12, Try.ntmps12
  unfold zeroC at HT0 HT1 HT2 HC
  go_wp2_with fail
  generalize (w.alloc (.cells #[.int .i64 0, .int .i64 0, .int .i64 0, .int .i64 0, .slice none 0 0, .slice none 0 0] 28)).alloc (.cells #[.int .i64 0, .int .i64 0, .int .i64 0, .int .i64 0, .slice none 0 0, .slice none 0 0] 28) = w0 at *
  refine (HC.out).mono ?_
  rintro e w1 ⟨rfl, b1⟩
  have HB1 := hide (HT2.out.trans (b1.mono HT2.out.size))
  have HZ0 := hide ((b1.block _ (lt_of_block HT0.out)).trans HT0.out)
  have HZ1 := hide ((b1.block _ (lt_of_block HT1.out)).trans HT1.out)
  clear b1 HC HT0 HT1 HT2
  by_cases hk : checkI b s = 0
  case neg =>
    have hk1 : (checkI b s != 0) = true := by simpa using hk
    have HKN := hide hk
    obtain ⟨ck, hck⟩ : ∃ ck, ck = checkI b s := ⟨_, rfl⟩
    rw [← hck] at hk1 HKN ⊢
    have HCK := hide hck
    clear hck
    have x0 := cell_of_row _ _ 0 _ _ (0, 0) HZ1.out
    have x1 := cell_of_row _ _ 1 _ _ (0, 0) HZ1.out
    have x2 := cell_of_row _ _ 2 _ _ (0, 0) HZ1.out
    have x3 := cell_of_row _ _ 3 _ _ (0, 0) HZ1.out
    have x4 := cell_of_row _ _ 4 _ _ (0, 0) HZ1.out
    have x5 := cell_of_row _ _ 5 _ _ (0, 0) HZ1.out
    have z0 := cell_of_row _ _ 0 _ _ (0, 0) HZ0.out
    have z1 := cell_of_row _ _ 1 _ _ (0, 0) HZ0.out
    have z2 := cell_of_row _ _ 2 _ _ (0, 0) HZ0.out
    have z3 := cell_of_row _ _ 3 _ _ (0, 0) HZ0.out
    have z4 := cell_of_row _ _ 4 _ _ (0, 0) HZ0.out
    have z5 := cell_of_row _ _ 5 _ _ (0, 0) HZ0.out
    have z6 : ∀ i, w1.frozen? ⟨w.heap.size, i, none⟩ = false := fun i => frozen_of_row w1 _ i _ _ HZ0.out
    simp only [List.getElem?_toArray, List.getElem?_cons_zero, List.getElem?_cons_succ] at x0 x1 x2 x3 x4 x5 z0 z1 z2 z3 z4 z5
    have HF := hide (setCell_block (setCell_block (setCell_block (setCell_block (setCell_block (setCell_block HZ0.out 0 (.int .i64 0)) 1 (.int .i64 0)) 2 (.int .i64 0)) 3 (.int .i64 0)) 4 (.slice none 0 0)) 5 (.slice none 0 0))
    clear hk
    go_wp2_with fail
    have f0 := cell_of_row _ _ 0 _ _ (0, 0) HF.out
    have f1 := cell_of_row _ _ 1 _ _ (0, 0) HF.out
    have f2 := cell_of_row _ _ 2 _ _ (0, 0) HF.out
    have f3 := cell_of_row _ _ 3 _ _ (0, 0) HF.out
    have f4 := cell_of_row _ _ 4 _ _ (0, 0) HF.out
    have f5 := cell_of_row _ _ 5 _ _ (0, 0) HF.out
    simp only [List.setIfInBounds_toArray, List.set_cons_zero, List.set_cons_succ, List.getElem?_toArray, List.getElem?_cons_zero, List.getElem?_cons_succ] at f0 f1 f2 f3 f4 f5
    refine bodyPost_ret (v := .tuple #[noCall, .int .i64 ck]) (by simp [results, Try.results12, go_sem, f0, f1, f2, f3, f4, f5, noCall]) rfl ?_
    exact ⟨(((((HB1.out.setCell (Nat.le_refl _) _).setCell (Nat.le_refl _) _).setCell (Nat.le_refl _) _).setCell (Nat.le_refl _) _).setCell (Nat.le_refl _) _).setCell (Nat.le_refl _) _, .inl ⟨by rw [← HCK.out]; exact HKN.out, by rw [HCK.out]⟩⟩
  have HOK := hide (ok_of_check hk)
  have HKZ := hide hk
  rw [hk]
  clear hk
  have HS1 := hide (refside_any A c b true w1 ((HW.out.below HB1.out).more HB1.out.size) (by have := HOK.out.1.1; omega))
  go_wp2_with fail
  refine (HS1.out).mono ?_
  rintro e w2 ⟨v1, rfl, o1, b2⟩
  obtain ⟨O, co, rfl, _⟩ := own_sh o1
  have HO1 := hide o1
  have HB2 := hide b2
  have HS2 := hide (refside_any A' c' s false w2 ((HW'.out.below (HB1.out.trans (b2.mono HB1.out.size))).more (HB1.out.trans (b2.mono HB1.out.size)).size) (by have := HOK.out.2.1; omega))
  clear o1 b2 HS1
  go_wp2_with fail
  refine (HS2.out).mono ?_
  rintro e w3 ⟨v2, rfl, o2, b3⟩
  obtain ⟨O', co', rfl, _⟩ := own_sh o2
  have e1 := ordK_len (κOf true) b
  have e2 := ordK_len (κOf false) s
  have HR4 : Hid (RcS w w3.heap.size (w3.heap.size + 1) A c b O co A' c' s O' co' #[.int .i64 0, .int .i64 0, .int .i64 0, .int .i64 0, .slice none 0 0, .slice none 0 0] ((w3.alloc (.cells #[.slice A b.length c, .slice O b.length co] 72)).alloc (.cells #[.slice A' s.length c', .slice O' s.length co'] 72))) := hide (by
    obtain ⟨s0, s1, s2⟩ := two_boxes w3 (.cells #[.slice A b.length c, .slice O b.length co] 72) (.cells #[.slice A' s.length c', .slice O' s.length co'] 72)
    have hb3 := b3.trans (s2.mono b3.size)
    have hb2 := HB2.out.trans (hb3.mono HB2.out.size)
    have hb1 := HB1.out.trans (hb2.mono HB1.out.size)
    have hl := lt_of_block HZ1.out
    rw [e1] at HO1
    rw [e2] at o2
    have hl2 := HB2.out.size
    have hl3 := b3.size
    exact ⟨hb1, (hb2.block _ (lt_of_block HZ0.out)).trans HZ0.out, (hb2.block _ hl).trans HZ1.out, s0, s1, own_base (own_below HO1.out hb3 (Nat.le_refl _)) (by omega), own_base (own_below o2 s2 (Nat.le_refl _)) (by omega), by omega⟩)
  rw [e1, e2]
  clear o2 b3 HS2 HO1 HB2 HB1 e1 e2 HZ0 HZ1
  go_upto_region 6 with fail
  obtain ⟨p8, hp8⟩ : ∃ p, p = w3.heap.size := ⟨_, rfl⟩
  generalize (w3.alloc (.cells #[.slice A b.length c, .slice O b.length co] 72)).alloc (.cells #[.slice A' s.length c', .slice O' s.length co'] 72) = w4 at *
  rw [← hp8] at HR4 ⊢
  clear hp8
  have HTR := hide (traded_any A c b A' c' s w4 ((HW.out.below HR4.out.bel).more HR4.out.bel.size) ((HW'.out.below HR4.out.bel).more HR4.out.bel.size) HOK.out.1 HOK.out.2)
  have HKL := hide (K_le HOK.out.1 HOK.out.2)
  obtain ⟨KT, hK⟩ : ∃ K, K = sumT (RunA b s).1 := ⟨_, rfl⟩
  have HKK := hide hK
  rw [← hK] at HTR HKL
  clear hK
  go_wp2_with fail
  refine (HTR.out).mono ?_
  rintro e w5 ⟨rfl, b5⟩
  have HR5 := hide (HR4.out.below b5)
  clear b5 HTR HR4
  have y1 := HR5.out.cell 1
  have y2 := HR5.out.frozen 1
  simp only [List.getElem?_toArray, List.getElem?_cons_zero, List.getElem?_cons_succ] at y1
  go_upto_region 8 with fail
  have HR6 := hide (HR5.out.setc 1 (.int .i64 KT))
  simp only [List.setIfInBounds_toArray, List.set_cons_zero, List.set_cons_succ] at HR6
  generalize w5.setCell ⟨w.heap.size + 1, 1, none⟩ (.int .i64 KT) = w6 at *
  clear y1 y2 HR5
  obtain ⟨l1, hl1⟩ : ∃ l, l = givenB b.length (RunA b s).1 := ⟨_, rfl⟩
  obtain ⟨l2, hl2⟩ : ∃ l, l = givenS s.length (RunA b s).1 := ⟨_, rfl⟩
  have HL := hide (And.intro hl1 hl2)
  have HLN : Hid (l1.length = b.length ∧ l2.length = s.length) := hide (by rw [hl1, hl2, givenB_len, givenS_len]; exact ⟨rfl, rfl⟩)
  have HAB := hide (allR_bound b (okw_cnt HOK.out.1))
  have hkb : 0 ≤ KT ∧ KT ≤ 1000000 := by have := HKL.out; have := HAB.out; have := HOK.out.1.1; omega
  have HKB := hide hkb
  have HSA : Hid (Calls Try.prog 31 #[.agg #[.slice A b.length c, .slice O b.length co], .int .i64 KT] w6.drew (SharesP l1 w6.drew)) := hide (by
    have h1 := shares_any A c b O co (ordK κB b) KT w6.drew ((HR6.out.drewN 1).two HW.out HW'.out HOK.out.1 HOK.out.2).mb hkb
    rw [ordK_len] at h1
    have h2 := shares_givenB HOK.out.1 HOK.out.2
    rw [← HKK.out, ← hl1] at h2
    have h3 : sharesA b.length (ordT b (ordK κB b)) KT = l1 := h2
    rwa [h3] at h1)
  have HSB : Hid (∀ W, RcS w p8 (p8 + 1) A c b O co A' c' s O' co' #[.int .i64 0, .int .i64 KT, .int .i64 0, .int .i64 0, .slice none 0 0, .slice none 0 0] W → Calls Try.prog 31 #[.agg #[.slice A' s.length c', .slice O' s.length co'], .int .i64 KT] W (SharesP l2 W)) := hide (fun W hr => by
    have h1 := shares_any A' c' s O' co' (ordK κS s) KT W (hr.two HW.out HW'.out HOK.out.1 HOK.out.2).ms hkb
    rw [ordK_len] at h1
    have h2 := shares_givenS HOK.out.1 HOK.out.2
    rw [← HKK.out, ← hl2] at h2
    have h3 : sharesA s.length (ordT s (ordK κS s)) KT = l2 := h2
    rwa [h3] at h1)
  clear hl1 hl2 hkb
  go_cut [35] from 28 to 35 (fun _ wx => ∃ g1 g2, (g1 ≠ g2 ∧ w.heap.size + 2 ≤ g1 ∧ w.heap.size + 2 ≤ g2) ∧ wx.heap[g1]? = some (.cells (rowI l1) 3 (0, 0)) ∧ wx.heap[g2]? = some (.cells (rowI l2) 3 (0, 0)) ∧ RcS w p8 (p8 + 1) A c b O co A' c' s O' co' #[.int .i64 0, .int .i64 KT, .int .i64 0, .int .i64 0, .slice (some ⟨g1, 0, none⟩) b.length b.length, .slice (some ⟨g2, 0, none⟩) s.length s.length] wx)
  case first =>
    obtain ⟨c0, c1, c2, c3⟩ := (HR6.out.two HW.out HW'.out HOK.out.1 HOK.out.2).cells
    have hS0 : (fun X : World => X.cell? ⟨p8, 0, none⟩ = some (.slice A b.length c) ∧ X.cell? ⟨p8, 1, none⟩ = some (.slice O b.length co) ∧ X.cell? ⟨p8 + 1, 0, none⟩ = some (.slice A' s.length c') ∧ X.cell? ⟨p8 + 1, 1, none⟩ = some (.slice O' s.length co')) w6.drew := ⟨c0, c1, c2, c3⟩
    have HSS : Hid (∀ X, Below w6.heap.size w6 X → X.cell? ⟨p8, 0, none⟩ = some (.slice A b.length c) ∧ X.cell? ⟨p8, 1, none⟩ = some (.slice O b.length co) ∧ X.cell? ⟨p8 + 1, 0, none⟩ = some (.slice A' s.length c') ∧ X.cell? ⟨p8 + 1, 1, none⟩ = some (.slice O' s.length co')) := hide (fun X hb => ⟨(hb.cell (World.block_lt_of_cell? _ _ c0)).trans c0, (hb.cell (World.block_lt_of_cell? _ _ c1)).trans c1, (hb.cell (World.block_lt_of_cell? _ _ c2)).trans c2, (hb.cell (World.block_lt_of_cell? _ _ c3)).trans c3⟩)
    clear c0 c1 c2 c3
    refine wp_region_U 9 (fun X => X.cell? ⟨p8, 0, none⟩ = some (.slice A b.length c) ∧ X.cell? ⟨p8, 1, none⟩ = some (.slice O b.length co) ∧ X.cell? ⟨p8 + 1, 0, none⟩ = some (.slice A' s.length c') ∧ X.cell? ⟨p8 + 1, 1, none⟩ = some (.slice O' s.length co')) rfl hS0 (fun hHeld => ?_)
    clear hS0
    refine AnyU.take (i := 0) (v := ?v501) rfl (by kernel_rfl) (by kernel_rfl) (by kernel_rfl) (by kernel_rfl) (fun _ _ _ h => h) (Or.inl ⟨by rfl, ?hy501⟩) hHeld ?r501
    case hy501 => (intro w hSw; (try dsimp only at hSw); go_simp <;> with_reducible rfl)
    simp only [Act.put, List.setIfInBounds_toArray, List.set_cons_zero, List.set_cons_succ]
    refine AnyU.take (i := 1) (v := ?v502) rfl (by kernel_rfl) (by kernel_rfl) (by kernel_rfl) (by kernel_rfl) (fun _ _ _ h => h) (Or.inl ⟨by rfl, ?hy502⟩) hHeld ?r502
    case hy502 => (intro w hSw; (try dsimp only at hSw); go_simp <;> with_reducible rfl)
    simp only [Act.put, List.setIfInBounds_toArray, List.set_cons_zero, List.set_cons_succ]
    refine AnyU.take (i := 3) (v := ?v503) rfl (by kernel_rfl) (by kernel_rfl) (by kernel_rfl) (by kernel_rfl) (fun _ _ _ h => h) (Or.inl ⟨by rfl, ?hy503⟩) hHeld ?r503
    case hy503 => (intro w hSw; (try dsimp only at hSw); go_simp <;> with_reducible rfl)
    simp only [Act.put, List.setIfInBounds_toArray, List.set_cons_zero, List.set_cons_succ]
    refine AnyU.take (i := 4) (v := ?v504) rfl (by kernel_rfl) (by kernel_rfl) (by kernel_rfl) (by kernel_rfl) (fun _ _ _ h => h) (Or.inl ⟨by rfl, ?hy504⟩) hHeld ?r504
    case hy504 => (intro w hSw; (try dsimp only at hSw); go_simp <;> with_reducible rfl)
    simp only [Act.put, List.setIfInBounds_toArray, List.set_cons_zero, List.set_cons_succ]
    refine AnyU.next (js := [2]) (by kernel_rfl) (by simp) (NextU.cons rfl (fun K hK => ?_) NextU.nil)
    go_simp
    refine (HSA.out).mono ?_
    rintro e v4 ⟨g1, rfl, hg1, hrow1, hb4⟩
    have HB4 : Hid (Below w6.heap.size w6 v4) := hide ⟨hb4.os, hb4.tape, hb4.output, hb4.size, hb4.block⟩
    have HX4 := hide (HR6.out.below HB4.out)
    have HG1 : Hid (w6.heap.size ≤ g1) := hide hg1
    have HW1 := hide hrow1
    have HS3 := hide (HSB.out v4 HX4.out)
    rw [HLN.out.1]
    clear hb4 hg1 hrow1 HSA HSB
    go_wp2_with fail
    refine hK.out _ _ (fun _ => HSS.out _ HB4.out) (fun hHeld => ?_)
    replace hHeld := hHeld (by decide)
    clear hK K
    try simp only [Act.put, List.setIfInBounds_toArray, List.set_cons_zero, List.set_cons_succ]
    refine AnyU.take (i := 6) (v := ?v505) rfl (by kernel_rfl) (by kernel_rfl) (by kernel_rfl) (by kernel_rfl) (fun _ _ _ h => h) (Or.inl ⟨by rfl, ?hy505⟩) hHeld ?r505
    case hy505 => (intro w hSw; (try dsimp only at hSw); go_simp <;> with_reducible rfl)
    simp only [Act.put, List.setIfInBounds_toArray, List.set_cons_zero, List.set_cons_succ]
    refine AnyU.next (js := [5]) (by kernel_rfl) (by simp) (NextU.cons rfl (fun K hK => ?_) NextU.nil)
    go_simp
    refine (HS3.out).mono ?_
    rintro e v5 ⟨g2, rfl, hg2, hrow2, hb5⟩
    have HB5 := hide (HB4.out.trans (hb5.mono HB4.out.size))
    have HX5 := hide (HX4.out.below hb5)
    have HW2 := hide hrow2
    have HW15 := hide ((hb5.block _ (lt_of_block HW1.out)).trans HW1.out)
    have HNG : Hid (g1 ≠ g2 ∧ w.heap.size + 2 ≤ g1 ∧ w.heap.size + 2 ≤ g2) := hide (by
      have h1 := lt_of_block HW1.out
      have h2 := lt_of_block HR6.out.cl
      have h3 := HG1.out
      omega)
    rw [HLN.out.2]
    have HY5 := hide (HX5.out.setc 4 (.slice (some ⟨g1, 0, none⟩) b.length b.length))
    have HY6 := hide (HY5.out.setc 5 (.slice (some ⟨g2, 0, none⟩) s.length s.length))
    simp only [List.setIfInBounds_toArray, List.set_cons_zero, List.set_cons_succ] at HY5 HY6
    have y4 := HX5.out.cell 4
    have f4 := HX5.out.frozen 4
    have y5 := HY5.out.cell 5
    have f5 := HY5.out.frozen 5
    simp only [List.getElem?_toArray, List.getElem?_cons_zero, List.getElem?_cons_succ] at y4 y5
    clear hb5 hg2 hrow2 HS3
    go_wp2_with fail
    refine hK.out _ _ (fun _ => HSS.out _ HB5.out) (fun hHeld => ?_)
    replace hHeld := hHeld (by decide)
    clear hK K
    try simp only [Act.put, List.setIfInBounds_toArray, List.set_cons_zero, List.set_cons_succ]
    refine AnyU.next (js := [7]) (by kernel_rfl) (by simp) (NextU.cons rfl (fun K hK => ?_) NextU.nil)
    go_simp
    refine hK.out _ _ (fun _ => (HY5.out.two HW.out HW'.out HOK.out.1 HOK.out.2).cells) (fun hHeld => ?_)
    replace hHeld := hHeld (by decide)
    clear hK K
    try simp only [Act.put, List.setIfInBounds_toArray, List.set_cons_zero, List.set_cons_succ]
    refine AnyU.take (i := 8) (v := ?v506) rfl (by kernel_rfl) (by kernel_rfl) (by kernel_rfl) (by kernel_rfl) (fun _ _ _ h => h) (Or.inl ⟨by rfl, ?hy506⟩) hHeld ?r506
    case hy506 => (intro w hSw; (try dsimp only at hSw); go_simp <;> with_reducible rfl)
    simp only [Act.put, List.setIfInBounds_toArray, List.set_cons_zero, List.set_cons_succ]
    refine AnyU.next (js := [9]) (by kernel_rfl) (by simp) (NextU.cons rfl (fun K hK => ?_) NextU.nil)
    go_simp
    refine hK.out _ _ (fun h => absurd h (by decide)) (fun _ => ?_)
    clear hK K
    try simp only [Act.put, List.setIfInBounds_toArray, List.set_cons_zero, List.set_cons_succ]
    refine AnyU.over (by kernel_rfl) ?_ _
    go_wp2_with fail
    go_meet
    refine ⟨g1, g2, HNG.out, ?_, ?_, HY6.out⟩
    · exact (Below.heap_setCell _ _ _ _ (by have := HNG.out; show g1 ≠ w.heap.size + 1; omega)).trans ((Below.heap_setCell _ _ _ _ (by have := HNG.out; show g1 ≠ w.heap.size + 1; omega)).trans HW15.out)
    · exact (Below.heap_setCell _ _ _ _ (by have := HNG.out; show g2 ≠ w.heap.size + 1; omega)).trans ((Below.heap_setCell _ _ _ _ (by have := HNG.out; show g2 ≠ w.heap.size + 1; omega)).trans HW2.out)
  case rest =>
  obtain ⟨g1, g2, hng, hr1, hr2, hrc⟩ := hcut
  have HR7 := hide (RcR.mk hng hr1 hr2 hrc)
  clear hng hr1 hr2 hrc HR6 HSA HSB
  by_cases hK0 : KT = 0
  · have hts : (RunA b s).1 = [] := by
      rcases Classical.em ((RunA b s).1 = []) with he | he
      · exact he
      · have := sumT_pos (RunA b s).1 (fun t ht => (run_trd HOK.out.1 HOK.out.2 ht).2.2.1.1) he
        have := HKK.out
        omega
    have HC0 : Hid (clrOf b.length s.length (RunA b s) = (0, 0, 0, 0, l1, l2)) := hide (by rw [clr_none hts, HL.out.1, HL.out.2, hts])
    subst hK0
    clear hts
    have y0 := HR7.out.rc.cell 0
    have y1 := HR7.out.rc.cell 1
    have y2 := HR7.out.rc.cell 2
    have y3 := HR7.out.rc.cell 3
    have y4 := HR7.out.rc.cell 4
    have y5 := HR7.out.rc.cell 5
    simp only [List.getElem?_toArray, List.getElem?_cons_zero, List.getElem?_cons_succ] at y0 y1 y2 y3 y4 y5
    obtain ⟨z0, z1, z2, z3, z4, z5, z6⟩ := HR7.out.rc.zero
    have HF := hide (setCell_block (setCell_block (setCell_block (setCell_block (setCell_block (setCell_block HR7.out.rc.z 0 (.int .i64 0)) 1 (.int .i64 0)) 2 (.int .i64 0)) 3 (.int .i64 0)) 4 (.slice (some ⟨g1, 0, none⟩) b.length b.length)) 5 (.slice (some ⟨g2, 0, none⟩) s.length s.length))
    have HBF := hide ((((((HR7.out.rc.bel.setCell (p := ⟨w.heap.size, 0, none⟩) (Nat.le_refl _) (.int .i64 0)).setCell (p := ⟨w.heap.size, 1, none⟩) (Nat.le_refl _) (.int .i64 0)).setCell (p := ⟨w.heap.size, 2, none⟩) (Nat.le_refl _) (.int .i64 0)).setCell (p := ⟨w.heap.size, 3, none⟩) (Nat.le_refl _) (.int .i64 0)).setCell (p := ⟨w.heap.size, 4, none⟩) (Nat.le_refl _) (.slice (some ⟨g1, 0, none⟩) b.length b.length)).setCell (p := ⟨w.heap.size, 5, none⟩) (Nat.le_refl _) (.slice (some ⟨g2, 0, none⟩) s.length s.length))
    go_wp2_with fail
    have f0 := cell_of_row _ _ 0 _ _ (0, 0) HF.out
    have f1 := cell_of_row _ _ 1 _ _ (0, 0) HF.out
    have f2 := cell_of_row _ _ 2 _ _ (0, 0) HF.out
    have f3 := cell_of_row _ _ 3 _ _ (0, 0) HF.out
    have f4 := cell_of_row _ _ 4 _ _ (0, 0) HF.out
    have f5 := cell_of_row _ _ 5 _ _ (0, 0) HF.out
    simp only [zeroC, List.setIfInBounds_toArray, List.set_cons_zero, List.set_cons_succ, List.getElem?_toArray, List.getElem?_cons_zero, List.getElem?_cons_succ] at f0 f1 f2 f3 f4 f5
    refine bodyPost_ret (v := .tuple #[.agg (six 0 0 0 0 g1 b.length g2 s.length), .int .i64 0]) (by simp [results, Try.results12, go_sem, f0, f1, f2, f3, f4, f5]) rfl ?_
    exact rc_end HR7.out HKZ.out HC0.out HLN.out HBF.out (fun k hk => by
      have hne : k ≠ w.heap.size := by omega
      exact (Below.heap_setCell _ _ _ _ hne).trans ((Below.heap_setCell _ _ _ _ hne).trans ((Below.heap_setCell _ _ _ _ hne).trans ((Below.heap_setCell _ _ _ _ hne).trans ((Below.heap_setCell _ _ _ _ hne).trans (Below.heap_setCell _ _ _ _ hne))))))
  have hts : (RunA b s).1 ≠ [] := fun he => hK0 (by rw [HKK.out, he]; rfl)
  have HNE := hide hts
  have hk0b : (KT == 0) = false := by simpa using hK0
  clear hts hK0
  obtain ⟨x, y, t, ux, uy, hlast, et1, et2⟩ := run_unit_last (HOK.out.1.mid HOK.out.2) HNE.out
  obtain ⟨un1, un2⟩ := run_unit_next (HOK.out.1.mid HOK.out.2)
  have hk0 : (0 : Int) + sumT (runW (ordT b (ordK κB b)) (ordT s (ordK κS s)) 0 0).1 = KT := by rw [Int.zero_add]; exact HKK.out.symm
  rw [hk0] at ux uy un1 un2
  have HU1 : Hid ((unitX (sideB b) (KT + 1)).map unitT = (RunA b s).2.1) := hide un1
  have HU2 : Hid ((unitX (sideS s) (KT + 1)).map unitT = (RunA b s).2.2) := hide un2
  have HLOW : Hid (lowT (RunA b s).1 = y.2.1 ∧ highT (RunA b s).1 = x.2.1) := hide (by
    have hl : (RunA b s).1.getLast? = some t := hlast
    unfold lowT highT
    rw [hl]
    exact ⟨by show t.2.1.2 = y.2.1; rw [et2]; rfl, by show t.1.2 = x.2.1; rw [et1]; rfl⟩)
  obtain ⟨j, hj1, hj2, hj3⟩ := unit_at ux
  obtain ⟨k, hk1, hk2, hk3⟩ := unit_at uy
  obtain ⟨bb, bo, rfl, hbb, hcb⟩ := Wants.at_ HW.out (by omega)
  obtain ⟨sb, so, rfl, hsb, hcs⟩ := Wants.at_ HW'.out (by omega)
  have HSS : Hid (∀ cs X, RcS w p8 (p8 + 1) (some ⟨bb, bo, none⟩) c b O co (some ⟨sb, so, none⟩) c' s O' co' cs X → X.cell? ⟨p8, 0, none⟩ = some (.slice (some ⟨bb, bo, none⟩) b.length c) ∧ X.cell? ⟨p8, 1, none⟩ = some (.slice O b.length co) ∧ X.cell? ⟨p8 + 1, 0, none⟩ = some (.slice (some ⟨sb, so, none⟩) s.length c') ∧ X.cell? ⟨p8 + 1, 1, none⟩ = some (.slice O' s.length co') ∧ X.cell? ⟨bb, bo + j * 2, none⟩ = some (.int .i64 x.2.1) ∧ X.cell? ⟨sb, so + k * 2, none⟩ = some (.int .i64 y.2.1)) := hide (fun cs X hr => by
    obtain ⟨c0, c1, c2, c3⟩ := (hr.two HW.out HW'.out HOK.out.1 HOK.out.2).cells
    exact ⟨c0, c1, c2, c3, (hr.bel.cell (p := ⟨bb, bo + j * 2, none⟩) hbb).trans (hcb j _ hj3).1, (hr.bel.cell (p := ⟨sb, so + k * 2, none⟩) hsb).trans (hcs k _ hk3).1⟩)
  have HUS : Hid (∀ cs X, RcS w p8 (p8 + 1) (some ⟨bb, bo, none⟩) c b O co (some ⟨sb, so, none⟩) c' s O' co' cs X → Calls Try.prog 32 #[.agg #[.slice (some ⟨sb, so, none⟩) s.length c', .slice O' s.length co'], .int .i64 KT] X (ValPost (.int .i64 (k : Int)) X)) := hide (fun cs X hr => by
    have := TwoS.unitS (k := KT) (hr.two HW.out HW'.out HOK.out.1 HOK.out.2) HKB.out
    rwa [unitR_some uy, hk1] at this)
  have HUB : Hid (∀ cs X, RcS w p8 (p8 + 1) (some ⟨bb, bo, none⟩) c b O co (some ⟨sb, so, none⟩) c' s O' co' cs X → Calls Try.prog 32 #[.agg #[.slice (some ⟨bb, bo, none⟩) b.length c, .slice O b.length co], .int .i64 KT] X (ValPost (.int .i64 (j : Int)) X)) := hide (fun cs X hr => by
    have := TwoS.unitB (k := KT) (hr.two HW.out HW'.out HOK.out.1 HOK.out.2) HKB.out
    rwa [unitR_some ux, hj1] at this)
  have hjb : (j : Int) < (b.length : Int) := by omega
  have hks : (k : Int) < (s.length : Int) := by omega
  have HBC := hide (And.intro hbb hcb)
  have HSC := hide (And.intro hsb hcs)
  have HYX : Hid (0 ≤ y.2.1 ∧ x.2.1 ≤ 1099511627776) := hide ⟨(HOK.out.2.2 _ (List.mem_of_getElem? hk3)).1, (HOK.out.1.2 _ (List.mem_of_getElem? hj3)).2.1⟩
  clear ux uy hlast et1 et2 un1 un2 hk0 hj1 hj3 hk1 hk3 hbb hcb hsb hcs
  go_upto_region 11 with fail
  generalize y.2.1 = yc at *
  generalize x.2.1 = xc at *
  rename World => w7
  go_cut [54] from 39 to 54 (fun _ wx => RcR w p8 (p8 + 1) (some ⟨bb, bo, none⟩) c b O co (some ⟨sb, so, none⟩) c' s O' co' g1 g2 l1 l2 (six 0 KT yc xc g1 b.length g2 s.length) wx)
  case first =>
    refine wp_region_U 17 (fun X => X.cell? ⟨p8, 0, none⟩ = some (.slice (some ⟨bb, bo, none⟩) b.length c) ∧ X.cell? ⟨p8, 1, none⟩ = some (.slice O b.length co) ∧ X.cell? ⟨p8 + 1, 0, none⟩ = some (.slice (some ⟨sb, so, none⟩) s.length c') ∧ X.cell? ⟨p8 + 1, 1, none⟩ = some (.slice O' s.length co') ∧ X.cell? ⟨bb, bo + j * 2, none⟩ = some (.int .i64 xc) ∧ X.cell? ⟨sb, so + k * 2, none⟩ = some (.int .i64 yc)) rfl (HSS.out _ _ (HR7.out.drewN 1).rc) (fun hHeld => ?_)
    refine AnyU.take (i := 0) (v := ?v601) rfl (by kernel_rfl) (by kernel_rfl) (by kernel_rfl) (by kernel_rfl) (fun _ _ _ h => h) (Or.inl ⟨by rfl, ?hy601⟩) hHeld ?r601
    case hy601 => (intro w hSw; (try dsimp only at hSw); go_simp <;> with_reducible rfl)
    simp only [Act.put, List.setIfInBounds_toArray, List.set_cons_zero, List.set_cons_succ]
    refine AnyU.take (i := 1) (v := ?v602) rfl (by kernel_rfl) (by kernel_rfl) (by kernel_rfl) (by kernel_rfl) (fun _ _ _ h => h) (Or.inl ⟨by rfl, ?hy602⟩) hHeld ?r602
    case hy602 => (intro w hSw; (try dsimp only at hSw); go_simp <;> with_reducible rfl)
    simp only [Act.put, List.setIfInBounds_toArray, List.set_cons_zero, List.set_cons_succ]
    refine AnyU.take (i := 2) (v := ?v603) rfl (by kernel_rfl) (by kernel_rfl) (by kernel_rfl) (by kernel_rfl) (fun _ _ _ h => h) (Or.inl ⟨by rfl, ?hy603⟩) hHeld ?r603
    case hy603 => (intro w hSw; (try dsimp only at hSw); go_simp <;> with_reducible rfl)
    simp only [Act.put, List.setIfInBounds_toArray, List.set_cons_zero, List.set_cons_succ]
    refine AnyU.take (i := 7) (v := ?v604) rfl (by kernel_rfl) (by kernel_rfl) (by kernel_rfl) (by kernel_rfl) (fun _ _ _ h => h) (Or.inl ⟨by rfl, ?hy604⟩) hHeld ?r604
    case hy604 => (intro w hSw; (try dsimp only at hSw); go_simp <;> with_reducible rfl)
    simp only [Act.put, List.setIfInBounds_toArray, List.set_cons_zero, List.set_cons_succ]
    refine AnyU.take (i := 8) (v := ?v605) rfl (by kernel_rfl) (by kernel_rfl) (by kernel_rfl) (by kernel_rfl) (fun _ _ _ h => h) (Or.inl ⟨by rfl, ?hy605⟩) hHeld ?r605
    case hy605 => (intro w hSw; (try dsimp only at hSw); go_simp <;> with_reducible rfl)
    simp only [Act.put, List.setIfInBounds_toArray, List.set_cons_zero, List.set_cons_succ]
    refine AnyU.take (i := 9) (v := ?v606) rfl (by kernel_rfl) (by kernel_rfl) (by kernel_rfl) (by kernel_rfl) (fun _ _ _ h => h) (Or.inl ⟨by rfl, ?hy606⟩) hHeld ?r606
    case hy606 => (intro w hSw; (try dsimp only at hSw); go_simp <;> with_reducible rfl)
    simp only [Act.put, List.setIfInBounds_toArray, List.set_cons_zero, List.set_cons_succ]
    have HC1 := hide (HUS.out _ _ (HR7.out.drewN 1).rc)
    refine AnyU.next (js := [3]) (by kernel_rfl) (by simp) (NextU.cons rfl (fun K hK => ?_) NextU.nil)
    go_simp
    refine (HC1.out).mono ?_
    rintro e v4 ⟨rfl, hb4⟩
    have HX4 := hide (HR7.out.below (show Below w7.heap.size w7 v4 from ⟨hb4.os, hb4.tape, hb4.output, hb4.size, hb4.block⟩))
    have HC2 := hide (HUB.out _ _ HX4.out.rc)
    clear hb4 HC1
    go_wp2_with fail
    refine hK.out _ _ (fun _ => HSS.out _ _ HX4.out.rc) (fun hHeld => ?_)
    replace hHeld := hHeld (by decide)
    clear hK K
    try simp only [Act.put, List.setIfInBounds_toArray, List.set_cons_zero, List.set_cons_succ]
    refine AnyU.take (i := 4) (v := ?v607) rfl (by kernel_rfl) (by kernel_rfl) (by kernel_rfl) (by kernel_rfl) (fun _ _ _ h => h) (Or.inl ⟨by rfl, ?hy607⟩) hHeld ?r607
    case hy607 => (intro w hSw; (try dsimp only at hSw); go_simp <;> with_reducible rfl)
    simp only [Act.put, List.setIfInBounds_toArray, List.set_cons_zero, List.set_cons_succ]
    refine AnyU.take (i := 5) (v := ?v608) rfl (by kernel_rfl) (by kernel_rfl) (by kernel_rfl) (by kernel_rfl) (fun _ _ _ h => h) (Or.inl ⟨by rfl, ?hy608⟩) hHeld ?r608
    case hy608 => (intro w hSw; (try dsimp only at hSw); go_simp <;> with_reducible rfl)
    simp only [Act.put, List.setIfInBounds_toArray, List.set_cons_zero, List.set_cons_succ]
    refine AnyU.take (i := 6) (v := ?v609) rfl (by kernel_rfl) (by kernel_rfl) (by kernel_rfl) (by kernel_rfl) (fun _ _ _ h => h) (Or.inl ⟨by rfl, ?hy609⟩) hHeld ?r609
    case hy609 => (intro w hSw; (try dsimp only at hSw); go_simp <;> with_reducible rfl)
    simp only [Act.put, List.setIfInBounds_toArray, List.set_cons_zero, List.set_cons_succ]
    refine AnyU.take (i := 14) (v := ?v610) rfl (by kernel_rfl) (by kernel_rfl) (by kernel_rfl) (by kernel_rfl) (fun _ _ _ h => h) (Or.inl ⟨by rfl, ?hy610⟩) hHeld ?r610
    case hy610 => (intro w hSw; (try dsimp only at hSw); go_simp <;> with_reducible rfl)
    simp only [Act.put, List.setIfInBounds_toArray, List.set_cons_zero, List.set_cons_succ]
    refine AnyU.next (js := [10]) (by kernel_rfl) (by simp) (NextU.cons rfl (fun K hK => ?_) NextU.nil)
    go_simp
    refine (HC2.out).mono ?_
    rintro e v5 ⟨rfl, hb5⟩
    have HX5 := hide (HX4.out.below hb5)
    clear hb5 HC2 HX4
    go_wp2_with fail
    refine hK.out _ _ (fun _ => HSS.out _ _ HX5.out.rc) (fun hHeld => ?_)
    replace hHeld := hHeld (by decide)
    clear hK K
    try simp only [Act.put, List.setIfInBounds_toArray, List.set_cons_zero, List.set_cons_succ]
    refine AnyU.take (i := 11) (v := ?v611) rfl (by kernel_rfl) (by kernel_rfl) (by kernel_rfl) (by kernel_rfl) (fun _ _ _ h => h) (Or.inl ⟨by rfl, ?hy611⟩) hHeld ?r611
    case hy611 => (intro w hSw; (try dsimp only at hSw); go_simp <;> with_reducible rfl)
    simp only [Act.put, List.setIfInBounds_toArray, List.set_cons_zero, List.set_cons_succ]
    refine AnyU.take (i := 12) (v := ?v612) rfl (by kernel_rfl) (by kernel_rfl) (by kernel_rfl) (by kernel_rfl) (fun _ _ _ h => h) (Or.inl ⟨by rfl, ?hy612⟩) hHeld ?r612
    case hy612 => (intro w hSw; (try dsimp only at hSw); go_simp <;> with_reducible rfl)
    simp only [Act.put, List.setIfInBounds_toArray, List.set_cons_zero, List.set_cons_succ]
    refine AnyU.take (i := 13) (v := ?v613) rfl (by kernel_rfl) (by kernel_rfl) (by kernel_rfl) (by kernel_rfl) (fun _ _ _ h => h) (Or.inl ⟨by rfl, ?hy613⟩) hHeld ?r613
    case hy613 => (intro w hSw; (try dsimp only at hSw); go_simp <;> with_reducible rfl)
    simp only [Act.put, List.setIfInBounds_toArray, List.set_cons_zero, List.set_cons_succ]
    have HY5 := hide (HX5.out.setc 2 (.int .i64 yc))
    have HY6 := hide (HY5.out.setc 3 (.int .i64 xc))
    simp only [List.setIfInBounds_toArray, List.set_cons_zero, List.set_cons_succ] at HY5 HY6
    have z2 := HX5.out.rc.cell 2
    have f2 := HX5.out.rc.frozen 2
    have z3 := HY5.out.rc.cell 3
    have f3 := HY5.out.rc.frozen 3
    simp only [List.getElem?_toArray, List.getElem?_cons_zero, List.getElem?_cons_succ] at z2 z3
    refine AnyU.next (js := [15]) (by kernel_rfl) (by simp) (NextU.cons rfl (fun K hK => ?_) NextU.nil)
    go_simp
    refine hK.out _ _ (fun _ => HSS.out _ _ HY5.out.rc) (fun hHeld => ?_)
    replace hHeld := hHeld (by decide)
    clear hK K
    try simp only [Act.put, List.setIfInBounds_toArray, List.set_cons_zero, List.set_cons_succ]
    refine AnyU.take (i := 16) (v := ?v614) rfl (by kernel_rfl) (by kernel_rfl) (by kernel_rfl) (by kernel_rfl) (fun _ _ _ h => h) (Or.inl ⟨by rfl, ?hy614⟩) hHeld ?r614
    case hy614 => (intro w hSw; (try dsimp only at hSw); go_simp <;> with_reducible rfl)
    simp only [Act.put, List.setIfInBounds_toArray, List.set_cons_zero, List.set_cons_succ]
    refine AnyU.next (js := [17]) (by kernel_rfl) (by simp) (NextU.cons rfl (fun K hK => ?_) NextU.nil)
    go_simp
    refine hK.out _ _ (fun h => absurd h (by decide)) (fun _ => ?_)
    clear hK K
    try simp only [Act.put, List.setIfInBounds_toArray, List.set_cons_zero, List.set_cons_succ]
    refine AnyU.over (by kernel_rfl) ?_ _
    go_wp2_with fail
    go_meet
    exact HY6.out
  case rest =>
  have HR8 := hide hcut
  clear hcut HR7 HSS HUS HUB
  obtain ⟨w8, hw8⟩ : ∃ x, x = wc := ⟨_, rfl⟩
  rw [← hw8] at HR8 ⊢
  clear hw8
  have hw1 : IntKind.i64.wrap (KT + 1) = KT + 1 := Go.IntWalk.i64_in _ (by have := HKB.out; omega)
  obtain ⟨nb1, hnb1⟩ : ∃ nb, nb = unitR (sideB b) (KT + 1) := ⟨_, rfl⟩
  have HN1 : Hid ((nb1 = -1 ∧ loOf (RunA b s) = yc) ∨ ∃ (j' : Nat) (z : Int × Int), nb1 = (j' : Int) ∧ j' < b.length ∧ b[j']? = some z ∧ loOf (RunA b s) = max yc z.1) := hide (by
    have h1 := HU1.out
    rw [hnb1, unitR_X]
    unfold loOf
    rw [← h1]
    cases hX : unitX (sideB b) (KT + 1) with
    | none => exact .inl ⟨rfl, HLOW.out.1⟩
    | some u =>
      obtain ⟨j', e1, e2, e3⟩ := unit_at hX
      exact .inr ⟨j', u.2, e1, e2, e3, by show max _ u.2.1 = _; rw [HLOW.out.1]⟩)
  have HUC1 : Hid (Calls Try.prog 32 #[.agg #[.slice (some ⟨bb, bo, none⟩) b.length c, .slice O b.length co], .int .i64 (KT + 1)] w8 (ValPost (.int .i64 nb1) w8)) := hide (by
    have := TwoS.unitB (k := KT + 1) (HR8.out.rc.two HW.out HW'.out HOK.out.1 HOK.out.2) (by have := HKB.out; have := HKL.out; have := HAB.out; have := HOK.out.1.1; omega)
    rwa [← hnb1] at this)
  obtain ⟨c0, c1, c2, c3⟩ := (HR8.out.rc.two HW.out HW'.out HOK.out.1 HOK.out.2).cells
  clear hnb1 HU1
  go_upto_if 60 with (go_at_call 32; refine (HUC1.out).mono ?_; rintro e w9 ⟨rfl, hb1⟩; have HX1 := hide (HR8.out.below hb1); clear hb1 c0 c1 c2 c3 HUC1 hw1)
  clear HR8
  go_cut [69] from 61 to 69 (fun _ wx => RcR w p8 (p8 + 1) (some ⟨bb, bo, none⟩) c b O co (some ⟨sb, so, none⟩) c' s O' co' g1 g2 l1 l2 (six 0 KT (loOf (RunA b s)) xc g1 b.length g2 s.length) wx)
  case first =>
    rcases HN1.out with ⟨rfl, hl⟩ | ⟨j', z, rfl, hj', hz, hl⟩
    · rw [hl] at *
      go_wp2_with fail
      go_meet
      exact HX1.out
    · have hpos : decide ((0 : Int) ≤ (j' : Int)) = true := decide_eq_true (by omega)
      have hpos2 : (0 : Int) ≤ (j' : Int) := by omega
      have q0 := (HX1.out.rc.bel.cell (p := ⟨bb, bo + j' * 2, none⟩) HBC.out.1).trans (HBC.out.2 j' z hz).1
      have y0 := HX1.out.rc.cell 2
      have y1 := HX1.out.rc.frozen 2
      simp only [List.getElem?_toArray, List.getElem?_cons_zero, List.getElem?_cons_succ] at q0 y0
      have hjl : (j' : Int) < (b.length : Int) := by omega
      have HL9 := hide hl
      clear hz hl
      go_upto_region 14 with fail
      refine wp_region_U 9 (fun X => X = w9.drew) rfl rfl (fun hHeld => ?_)
      refine AnyU.take (i := 0) (v := ?v701) rfl (by kernel_rfl) (by kernel_rfl) (by kernel_rfl) (by kernel_rfl) (fun _ _ _ h => h) (Or.inl ⟨by rfl, ?hy701⟩) hHeld ?r701
      case hy701 => (intro w hSw; (try dsimp only at hSw); subst hSw; go_simp <;> with_reducible rfl)
      simp only [Act.put, List.setIfInBounds_toArray, List.set_cons_zero, List.set_cons_succ]
      refine AnyU.take (i := 1) (v := ?v702) rfl (by kernel_rfl) (by kernel_rfl) (by kernel_rfl) (by kernel_rfl) (fun _ _ _ h => h) (Or.inl ⟨by rfl, ?hy702⟩) hHeld ?r702
      case hy702 => (intro w hSw; (try dsimp only at hSw); subst hSw; go_simp <;> with_reducible rfl)
      simp only [Act.put, List.setIfInBounds_toArray, List.set_cons_zero, List.set_cons_succ]
      refine AnyU.take (i := 2) (v := ?v703) rfl (by kernel_rfl) (by kernel_rfl) (by kernel_rfl) (by kernel_rfl) (fun _ _ _ h => h) (Or.inl ⟨by rfl, ?hy703⟩) hHeld ?r703
      case hy703 => (intro w hSw; (try dsimp only at hSw); subst hSw; go_simp <;> with_reducible rfl)
      simp only [Act.put, List.setIfInBounds_toArray, List.set_cons_zero, List.set_cons_succ]
      refine AnyU.take (i := 3) (v := ?v704) rfl (by kernel_rfl) (by kernel_rfl) (by kernel_rfl) (by kernel_rfl) (fun _ _ _ h => h) (Or.inl ⟨by rfl, ?hy704⟩) hHeld ?r704
      case hy704 => (intro w hSw; (try dsimp only at hSw); subst hSw; go_simp <;> with_reducible rfl)
      simp only [Act.put, List.setIfInBounds_toArray, List.set_cons_zero, List.set_cons_succ]
      refine AnyU.take (i := 4) (v := ?v705) rfl (by kernel_rfl) (by kernel_rfl) (by kernel_rfl) (by kernel_rfl) (fun _ _ _ h => h) (Or.inl ⟨by rfl, ?hy705⟩) hHeld ?r705
      case hy705 => (intro w hSw; (try dsimp only at hSw); subst hSw; go_simp <;> with_reducible rfl)
      simp only [Act.put, List.setIfInBounds_toArray, List.set_cons_zero, List.set_cons_succ]
      refine AnyU.take (i := 5) (v := ?v706) rfl (by kernel_rfl) (by kernel_rfl) (by kernel_rfl) (by kernel_rfl) (fun _ _ _ h => h) (Or.inl ⟨by rfl, ?hy706⟩) hHeld ?r706
      case hy706 => (intro w hSw; (try dsimp only at hSw); subst hSw; go_simp <;> with_reducible rfl)
      simp only [Act.put, List.setIfInBounds_toArray, List.set_cons_zero, List.set_cons_succ]
      refine AnyU.take (i := 6) (v := ?v707) rfl (by kernel_rfl) (by kernel_rfl) (by kernel_rfl) (by kernel_rfl) (fun _ _ _ h => h) (Or.inl ⟨by rfl, ?hy707⟩) hHeld ?r707
      case hy707 => (intro w hSw; (try dsimp only at hSw); subst hSw; go_simp <;> with_reducible rfl)
      simp only [Act.put, List.setIfInBounds_toArray, List.set_cons_zero, List.set_cons_succ]
      refine AnyU.take (i := 7) (v := ?v708) rfl (by kernel_rfl) (by kernel_rfl) (by kernel_rfl) (by kernel_rfl) (fun _ _ _ h => h) (Or.inl ⟨by rfl, ?hy708⟩) hHeld ?r708
      case hy708 => (intro w hSw; (try dsimp only at hSw); subst hSw; go_simp <;> with_reducible rfl)
      simp only [Act.put, List.setIfInBounds_toArray, List.set_cons_zero, List.set_cons_succ]
      refine AnyU.take (i := 8) (v := ?v709) rfl (by kernel_rfl) (by kernel_rfl) (by kernel_rfl) (by kernel_rfl) (fun _ _ _ h => h) (Or.inl ⟨by rfl, ?hy709⟩) hHeld ?r709
      case hy709 => (intro w hSw; (try dsimp only at hSw); subst hSw; go_simp <;> with_reducible rfl)
      simp only [Act.put, List.setIfInBounds_toArray, List.set_cons_zero, List.set_cons_succ]
      refine AnyU.next (js := [9]) (by kernel_rfl) (by simp) (NextU.cons rfl (fun K hK => ?_) NextU.nil)
      clear hHeld
      go_simp
      refine hK.out _ _ (fun h => absurd h (by decide)) (fun _ => ?_)
      clear hK K
      try simp only [Act.put, List.setIfInBounds_toArray, List.set_cons_zero, List.set_cons_succ]
      refine AnyU.over (by kernel_rfl) ?_ _
      have HY := hide (HX1.out.setc 2 (.int .i64 (max yc z.1)))
      simp only [List.setIfInBounds_toArray, List.set_cons_zero, List.set_cons_succ] at HY
      rw [← HL9.out] at HY ⊢
      go_wp2_with fail
      go_meet
      exact HY.out.drewN 1
  case rest =>
  have HR9 := hide hcut
  clear hcut HX1 HN1
  obtain ⟨w10, hw10⟩ : ∃ x, x = wc := ⟨_, rfl⟩
  rw [← hw10] at HR9 ⊢
  clear hw10
  have hw2 : IntKind.i64.wrap (KT + 1) = KT + 1 := Go.IntWalk.i64_in _ (by have := HKB.out; omega)
  obtain ⟨nb2, hnb2⟩ : ∃ nb, nb = unitR (sideS s) (KT + 1) := ⟨_, rfl⟩
  have HN2 : Hid ((nb2 = -1 ∧ hiOf (RunA b s) = xc) ∨ ∃ (j' : Nat) (z : Int × Int), nb2 = (j' : Int) ∧ j' < s.length ∧ s[j']? = some z ∧ hiOf (RunA b s) = min xc z.1) := hide (by
    have h1 := HU2.out
    rw [hnb2, unitR_X]
    unfold hiOf
    rw [← h1]
    cases hX : unitX (sideS s) (KT + 1) with
    | none => exact .inl ⟨rfl, HLOW.out.2⟩
    | some u =>
      obtain ⟨j', e1, e2, e3⟩ := unit_at hX
      exact .inr ⟨j', u.2, e1, e2, e3, by show min _ u.2.1 = _; rw [HLOW.out.2]⟩)
  have HUC2 : Hid (Calls Try.prog 32 #[.agg #[.slice (some ⟨sb, so, none⟩) s.length c', .slice O' s.length co'], .int .i64 (KT + 1)] w10 (ValPost (.int .i64 nb2) w10)) := hide (by
    have := TwoS.unitS (k := KT + 1) (HR9.out.rc.two HW.out HW'.out HOK.out.1 HOK.out.2) (by have := HKB.out; have := HKL.out; have := HAB.out; have := HOK.out.1.1; omega)
    rwa [← hnb2] at this)
  obtain ⟨c0, c1, c2, c3⟩ := (HR9.out.rc.two HW.out HW'.out HOK.out.1 HOK.out.2).cells
  clear hnb2 HU2
  go_upto_if 75 with (go_at_call 32; refine (HUC2.out).mono ?_; rintro e w11 ⟨rfl, hb2⟩; have HX2 := hide (HR9.out.below hb2); clear hb2 c0 c1 c2 c3 HUC2 hw2)
  clear HR9
  go_cut [84] from 76 to 84 (fun _ wx => RcR w p8 (p8 + 1) (some ⟨bb, bo, none⟩) c b O co (some ⟨sb, so, none⟩) c' s O' co' g1 g2 l1 l2 (six 0 KT (loOf (RunA b s)) (hiOf (RunA b s)) g1 b.length g2 s.length) wx)
  case first =>
    rcases HN2.out with ⟨rfl, hl⟩ | ⟨j', z, rfl, hj', hz, hl⟩
    · rw [hl] at *
      go_wp2_with fail
      go_meet
      exact HX2.out
    · have hpos : decide ((0 : Int) ≤ (j' : Int)) = true := decide_eq_true (by omega)
      have hpos2 : (0 : Int) ≤ (j' : Int) := by omega
      have q0 := (HX2.out.rc.bel.cell (p := ⟨sb, so + j' * 2, none⟩) HSC.out.1).trans (HSC.out.2 j' z hz).1
      have y0 := HX2.out.rc.cell 3
      have y1 := HX2.out.rc.frozen 3
      simp only [List.getElem?_toArray, List.getElem?_cons_zero, List.getElem?_cons_succ] at q0 y0
      have hjl : (j' : Int) < (s.length : Int) := by omega
      have HL9 := hide hl
      clear hz hl
      go_upto_region 17 with fail
      refine wp_region_U 9 (fun X => X = w11.drew) rfl rfl (fun hHeld => ?_)
      refine AnyU.take (i := 0) (v := ?v801) rfl (by kernel_rfl) (by kernel_rfl) (by kernel_rfl) (by kernel_rfl) (fun _ _ _ h => h) (Or.inl ⟨by rfl, ?hy801⟩) hHeld ?r801
      case hy801 => (intro w hSw; (try dsimp only at hSw); subst hSw; go_simp <;> with_reducible rfl)
      simp only [Act.put, List.setIfInBounds_toArray, List.set_cons_zero, List.set_cons_succ]
      refine AnyU.take (i := 1) (v := ?v802) rfl (by kernel_rfl) (by kernel_rfl) (by kernel_rfl) (by kernel_rfl) (fun _ _ _ h => h) (Or.inl ⟨by rfl, ?hy802⟩) hHeld ?r802
      case hy802 => (intro w hSw; (try dsimp only at hSw); subst hSw; go_simp <;> with_reducible rfl)
      simp only [Act.put, List.setIfInBounds_toArray, List.set_cons_zero, List.set_cons_succ]
      refine AnyU.take (i := 2) (v := ?v803) rfl (by kernel_rfl) (by kernel_rfl) (by kernel_rfl) (by kernel_rfl) (fun _ _ _ h => h) (Or.inl ⟨by rfl, ?hy803⟩) hHeld ?r803
      case hy803 => (intro w hSw; (try dsimp only at hSw); subst hSw; go_simp <;> with_reducible rfl)
      simp only [Act.put, List.setIfInBounds_toArray, List.set_cons_zero, List.set_cons_succ]
      refine AnyU.take (i := 3) (v := ?v804) rfl (by kernel_rfl) (by kernel_rfl) (by kernel_rfl) (by kernel_rfl) (fun _ _ _ h => h) (Or.inl ⟨by rfl, ?hy804⟩) hHeld ?r804
      case hy804 => (intro w hSw; (try dsimp only at hSw); subst hSw; go_simp <;> with_reducible rfl)
      simp only [Act.put, List.setIfInBounds_toArray, List.set_cons_zero, List.set_cons_succ]
      refine AnyU.take (i := 4) (v := ?v805) rfl (by kernel_rfl) (by kernel_rfl) (by kernel_rfl) (by kernel_rfl) (fun _ _ _ h => h) (Or.inl ⟨by rfl, ?hy805⟩) hHeld ?r805
      case hy805 => (intro w hSw; (try dsimp only at hSw); subst hSw; go_simp <;> with_reducible rfl)
      simp only [Act.put, List.setIfInBounds_toArray, List.set_cons_zero, List.set_cons_succ]
      refine AnyU.take (i := 5) (v := ?v806) rfl (by kernel_rfl) (by kernel_rfl) (by kernel_rfl) (by kernel_rfl) (fun _ _ _ h => h) (Or.inl ⟨by rfl, ?hy806⟩) hHeld ?r806
      case hy806 => (intro w hSw; (try dsimp only at hSw); subst hSw; go_simp <;> with_reducible rfl)
      simp only [Act.put, List.setIfInBounds_toArray, List.set_cons_zero, List.set_cons_succ]
      refine AnyU.take (i := 6) (v := ?v807) rfl (by kernel_rfl) (by kernel_rfl) (by kernel_rfl) (by kernel_rfl) (fun _ _ _ h => h) (Or.inl ⟨by rfl, ?hy807⟩) hHeld ?r807
      case hy807 => (intro w hSw; (try dsimp only at hSw); subst hSw; go_simp <;> with_reducible rfl)
      simp only [Act.put, List.setIfInBounds_toArray, List.set_cons_zero, List.set_cons_succ]
      refine AnyU.take (i := 7) (v := ?v808) rfl (by kernel_rfl) (by kernel_rfl) (by kernel_rfl) (by kernel_rfl) (fun _ _ _ h => h) (Or.inl ⟨by rfl, ?hy808⟩) hHeld ?r808
      case hy808 => (intro w hSw; (try dsimp only at hSw); subst hSw; go_simp <;> with_reducible rfl)
      simp only [Act.put, List.setIfInBounds_toArray, List.set_cons_zero, List.set_cons_succ]
      refine AnyU.take (i := 8) (v := ?v809) rfl (by kernel_rfl) (by kernel_rfl) (by kernel_rfl) (by kernel_rfl) (fun _ _ _ h => h) (Or.inl ⟨by rfl, ?hy809⟩) hHeld ?r809
      case hy809 => (intro w hSw; (try dsimp only at hSw); subst hSw; go_simp <;> with_reducible rfl)
      simp only [Act.put, List.setIfInBounds_toArray, List.set_cons_zero, List.set_cons_succ]
      refine AnyU.next (js := [9]) (by kernel_rfl) (by simp) (NextU.cons rfl (fun K hK => ?_) NextU.nil)
      clear hHeld
      go_simp
      refine hK.out _ _ (fun h => absurd h (by decide)) (fun _ => ?_)
      clear hK K
      try simp only [Act.put, List.setIfInBounds_toArray, List.set_cons_zero, List.set_cons_succ]
      refine AnyU.over (by kernel_rfl) ?_ _
      have HY := hide (HX2.out.setc 3 (.int .i64 (min xc z.1)))
      simp only [List.setIfInBounds_toArray, List.set_cons_zero, List.set_cons_succ] at HY
      rw [← HL9.out] at HY ⊢
      go_wp2_with fail
      go_meet
      exact HY.out.drewN 1
  case rest =>
  have HR10 := hide hcut
  clear hcut HX2 HN2
  obtain ⟨w12, hw12⟩ : ∃ x, x = wc := ⟨_, rfl⟩
  rw [← hw12] at HR10 ⊢
  clear hw12
  have hlh := lo_hi HOK.out.1 HOK.out.2 HNE.out
  have hl1 := (lo_le (R := RunA b s)).1
  have hh1 := (hi_le (R := RunA b s)).1
  have hcl := clr_some (n := b.length) (m := s.length) HNE.out
  rw [HLOW.out.1] at hl1
  rw [HLOW.out.2] at hh1
  rw [← HKK.out, ← HL.out.1, ← HL.out.2] at hcl
  generalize loOf (RunA b s) = LO at *
  generalize hiOf (RunA b s) = HI at *
  obtain ⟨D, hD⟩ : ∃ D, D = (HI - LO).tdiv 2 := ⟨_, rfl⟩
  have hDe : (HI - LO).tdiv 2 = (HI - LO) / 2 := Int.tdiv_eq_ediv_of_nonneg (by omega)
  have hyx := HYX.out
  have hDt : (HI - LO).tdiv 2 = D := hD.symm
  obtain ⟨P, hP⟩ : ∃ P, P = LO + D := ⟨_, rfl⟩
  have hw1 : IntKind.i64.wrap (HI - LO) = HI - LO := Go.IntWalk.i64_in _ (by omega)
  have hw2 : IntKind.i64.wrap D = D := Go.IntWalk.i64_in _ (by omega)
  have hw3 : IntKind.i64.wrap (LO + D) = P := by rw [hP]; exact Go.IntWalk.i64_in _ (by omega)
  rw [hDt, ← hP] at hcl
  have HCL := hide hcl
  have HR13 := hide (HR10.out.setc 0 (.int .i64 P))
  simp only [List.setIfInBounds_toArray, List.set_cons_zero] at HR13
  have u0 := HR10.out.rc.cell 0
  have u1 := HR10.out.rc.frozen 0
  have u2 := HR10.out.rc.cell 2
  have u3 := HR10.out.rc.cell 3
  simp only [List.getElem?_toArray, List.getElem?_cons_zero, List.getElem?_cons_succ] at u0 u2 u3
  clear hlh hl1 hh1 hcl hD hDe hyx hP
  go_upto_region 19 with fail
  generalize w12.setCell ⟨w.heap.size + 1, 0, none⟩ (.int .i64 P) = w13 at *
  clear u0 u1 u2 u3 HR10 hw1 hw2 hw3 hDt
  have y0 := HR13.out.rc.cell 0
  have y1 := HR13.out.rc.cell 1
  have y2 := HR13.out.rc.cell 2
  have y3 := HR13.out.rc.cell 3
  have y4 := HR13.out.rc.cell 4
  have y5 := HR13.out.rc.cell 5
  simp only [List.getElem?_toArray, List.getElem?_cons_zero, List.getElem?_cons_succ] at y0 y1 y2 y3 y4 y5
  obtain ⟨z0, z1, z2, z3, z4, z5, z6⟩ := HR13.out.rc.zero
  have HF := hide (setCell_block (setCell_block (setCell_block (setCell_block (setCell_block (setCell_block HR13.out.rc.z 0 (.int .i64 P)) 1 (.int .i64 KT)) 2 (.int .i64 LO)) 3 (.int .i64 HI)) 4 (.slice (some ⟨g1, 0, none⟩) b.length b.length)) 5 (.slice (some ⟨g2, 0, none⟩) s.length s.length))
  have HBF := hide ((((((HR13.out.rc.bel.setCell (p := ⟨w.heap.size, 0, none⟩) (Nat.le_refl _) (.int .i64 P)).setCell (p := ⟨w.heap.size, 1, none⟩) (Nat.le_refl _) (.int .i64 KT)).setCell (p := ⟨w.heap.size, 2, none⟩) (Nat.le_refl _) (.int .i64 LO)).setCell (p := ⟨w.heap.size, 3, none⟩) (Nat.le_refl _) (.int .i64 HI)).setCell (p := ⟨w.heap.size, 4, none⟩) (Nat.le_refl _) (.slice (some ⟨g1, 0, none⟩) b.length b.length)).setCell (p := ⟨w.heap.size, 5, none⟩) (Nat.le_refl _) (.slice (some ⟨g2, 0, none⟩) s.length s.length))
  go_wp2_with fail
  have f0 := cell_of_row _ _ 0 _ _ (0, 0) HF.out
  have f1 := cell_of_row _ _ 1 _ _ (0, 0) HF.out
  have f2 := cell_of_row _ _ 2 _ _ (0, 0) HF.out
  have f3 := cell_of_row _ _ 3 _ _ (0, 0) HF.out
  have f4 := cell_of_row _ _ 4 _ _ (0, 0) HF.out
  have f5 := cell_of_row _ _ 5 _ _ (0, 0) HF.out
  simp only [zeroC, List.setIfInBounds_toArray, List.set_cons_zero, List.set_cons_succ, List.getElem?_toArray, List.getElem?_cons_zero, List.getElem?_cons_succ] at f0 f1 f2 f3 f4 f5
  refine bodyPost_ret (v := .tuple #[.agg (six P KT LO HI g1 b.length g2 s.length), .int .i64 0]) (by simp [results, Try.results12, go_sem, f0, f1, f2, f3, f4, f5]) rfl ?_
  exact rc_end HR13.out HKZ.out HCL.out HLN.out HBF.out (fun k hk => by
    have hne : k ≠ w.heap.size := by omega
    exact (Below.heap_setCell _ _ _ _ hne).trans ((Below.heap_setCell _ _ _ _ hne).trans ((Below.heap_setCell _ _ _ _ hne).trans ((Below.heap_setCell _ _ _ _ hne).trans ((Below.heap_setCell _ _ _ _ hne).trans (Below.heap_setCell _ _ _ _ hne))))))
end Go.Proofs.Ytogicdljbnllgaa
