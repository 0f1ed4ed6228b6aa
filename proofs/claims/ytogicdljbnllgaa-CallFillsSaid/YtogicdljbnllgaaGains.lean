/- The walk of call.Gains: a range over Fills. -/
import Derived.Test.YtogicdljbnllgaaFills
import Derived.Test.YtogicdljbnllgaaInU
namespace Go.Proofs.Ytogicdljbnllgaa
open Go.Shelf Go.RowKit Go.Lib Go.Sort Go.Proofs

attribute [local go_sem] Oper.semAt_some

def gainT (ts : List Trd) : Int := (ts.map fun t => t.2.2 * (t.1.2 - t.2.1.2)).sum
theorem gainT_snoc (ts : List Trd) (t : Trd) : gainT (ts ++ [t]) = gainT ts + t.2.2 * (t.1.2 - t.2.1.2) := by simp [gainT]
theorem mul_bd {n z : Int} (hn : 1 ≤ n ∧ n ≤ 64) (hz : 0 ≤ z ∧ z ≤ 1099511627776) : 0 ≤ n * z ∧ n * z ≤ 70368744177664 := by
  have h1 : 0 ≤ n * z := Int.mul_nonneg (by omega) hz.1
  have h2 : n * z ≤ 64 * z := Int.mul_le_mul_of_nonneg_right hn.2 hz.1
  omega
theorem gainT_bound : ∀ (ts : List Trd), (∀ t ∈ ts, 0 ≤ t.2.2 * (t.1.2 - t.2.1.2) ∧ t.2.2 * (t.1.2 - t.2.1.2) ≤ 70368744177664) → 0 ≤ gainT ts ∧ gainT ts ≤ 70368744177664 * ts.length
  | [], _ => by simp [gainT]
  | t :: ts, h => by
    have h1 := gainT_bound ts (fun u hu => h u (List.mem_cons_of_mem _ hu))
    have h2 := h t List.mem_cons_self
    simp only [gainT, List.map_cons, List.sum_cons, List.length_cons] at h1 ⊢
    omega
theorem trd_gain {b s : List (Int × Int)} (hb : OkW b) (hs : OkW s) {t : Trd} (ht : t ∈ (RunA b s).1) : (0 ≤ t.1.2 - t.2.1.2 ∧ t.1.2 - t.2.1.2 ≤ 1099511627776) ∧ 0 ≤ t.2.2 * (t.1.2 - t.2.1.2) ∧ t.2.2 * (t.1.2 - t.2.1.2) ≤ 70368744177664 := by
  obtain ⟨_, _, h3, ⟨c, h4⟩, ⟨c', h5⟩, h6⟩ := run_trd hb hs ht
  have k1 := hb.2 _ (List.mem_of_getElem? h4)
  have k2 := hs.2 _ (List.mem_of_getElem? h5)
  simp only at k1 k2
  have hz : 0 ≤ t.1.2 - t.2.1.2 ∧ t.1.2 - t.2.1.2 ≤ 1099511627776 := by omega
  exact ⟨hz, mul_bd h3 hz⟩
def gainsA (b s : List (Int × Int)) : Int × Int := if checkI b s = 0 then (gainT (RunA b s).1, 0) else (0, checkI b s)
def GainsP (r : Int × Int) (w : World) (e : Ending) (w' : World) : Prop := e = .returned (.tuple #[.int .i64 r.1, .int .i64 r.2]) ∧ Below w.heap.size w w'
/-- How far the range of Gains is. -/
structure GnI (q : Nat) (w4 : World) (pre : List Trd) (W : World) : Prop where
  c : W.heap[q]? = some (.cells #[.int .i64 (gainT pre)] 2 (0, 0))
  t : Turns (fun k => k = q) w4 W
theorem GnI.low {q : Nat} {w4 : World} (hq : q < w4.heap.size) : LowFrom w4.heap.size (GnI q w4) := fun s A C h hb =>
  ⟨(hb.block _ hq).trans h.c, ⟨hb.os.trans h.t.os, hb.tape.trans h.t.tape, hb.output.trans h.t.output, Nat.le_trans h.t.size hb.size, fun k hk hn => (hb.block k hk).trans (h.t.block k hk hn)⟩⟩
theorem gains_end {fn : Func} {tmps : Array Value} {w W : World} {D : Nat} {r : Int × Int} (hD : w.heap.size ≤ D) (hK : W.heap[D]? = some (.deferred (some []))) (hB : Below w.heap.size w W)
    (hr : ∀ W', (results fn tmps).run Try.prog W' = .ok (.tuple #[.int .i64 r.1, .int .i64 r.2]) W') : LeavesInM Fence.wide 9 Try.prog fn tmps (GainsP r w) [{ target := .collected D, args := #[] }] .returning W :=
  ⟨by simp, .inl ⟨D, _, rfl, run_takeDeferred hK, ⟨_, hr _, rfl, hB.grown (grownBy_putObj' W D _) hB.size (fun k e => by injection e with e; omega)⟩⟩⟩

theorem own_blk {W : World} {B e size n c : Nat} {O : Option Addr} {xs : List Value} (h : W.ownsRow B e size (.slice O n c) n xs) : ∀ x, O = some x → B ≤ x.block ∧ x.block < W.heap.size := by
  intro x hx
  subst hx
  exact h.lt x.block rfl
set_option maxHeartbeats 2000000 in
theorem gains_no (A : Option Addr) (c : Nat) (b : List (Int × Int)) (A' : Option Addr) (c' : Nat) (s : List (Int × Int)) (w : World) (h : Wants w w.heap.size A b) (h' : Wants w w.heap.size A' s) (hk : checkI b s ≠ 0) :
    Calls Try.prog 13 #[.slice A b.length c, .slice A' s.length c'] w (GainsP (gainsA b s) w) := by
  obtain ⟨t0, t1, t2⟩ := two_boxes w (.cells #[.slice A b.length c] 22) (.cells #[.slice A' s.length c'] 22)
  have HC := hide (check_any A c b A' c' s ((w.alloc (.cells #[.slice A b.length c] 22)).alloc (.cells #[.slice A' s.length c'] 22)) ((h.below t2).more t2.size) ((h'.below t2).more t2.size))
  have x0 := cell_of_row _ w.heap.size 0 _ _ (0, 0) t0
  have x1 := cell_of_row _ (w.heap.size + 1) 0 _ _ (0, 0) t1
  simp only [List.getElem?_toArray, List.getElem?_cons_zero] at x0 x1
  have HT2 := hide t2
  have hk1 : (checkI b s == 0) = false := by simpa using hk
  have hg : gainsA b s = (0, checkI b s) := by unfold gainsA; rw [if_neg hk]
  rw [hg]
  generalize checkI b s = ck at *
  clear t0 t1 t2 h h' hg hk
  go_enter Try.func13, Try.ntmps13
  go_wp2_with (go_at_call 18; refine (HC.out).mono ?_; rintro e w1 ⟨rfl, hb1⟩; have HB1 := hide hb1; clear hb1)
  refine bodyPost_ret (v := .tuple #[.int .i64 0, .int .i64 ck]) (by simp [results, Try.results13, go_sem]) rfl ?_
  exact ⟨rfl, HT2.out.trans (HB1.out.mono HT2.out.size)⟩

set_option maxRecDepth 100000 in
set_option maxHeartbeats 8000000 in
theorem gains_any (A : Option Addr) (c : Nat) (b : List (Int × Int)) (A' : Option Addr) (c' : Nat) (s : List (Int × Int)) (w : World) (h : Wants w w.heap.size A b) (h' : Wants w w.heap.size A' s) (hz : A = none → c = 0) (hz' : A' = none → c' = 0) :
    Calls Try.prog 13 #[.slice A b.length c, .slice A' s.length c'] w (GainsP (gainsA b s) w) := by
  by_cases hk : checkI b s = 0
  case neg => exact gains_no A c b A' c' s w h h' hk
  obtain ⟨t0, t1, t2⟩ := two_boxes w (.cells #[.slice A b.length c] 22) (.cells #[.slice A' s.length c'] 22)
  have hwA := (h.below t2).more t2.size
  have hwA' := (h'.below t2).more t2.size
  have HC := hide (check_any A c b A' c' s ((w.alloc (.cells #[.slice A b.length c] 22)).alloc (.cells #[.slice A' s.length c'] 22)) hwA hwA')
  rw [hk] at HC
  have HOK := hide (ok_of_check hk)
  have HFA : Hid (FillsA b s = (RunA b s).1) := hide (by unfold FillsA; rw [if_pos hk])
  have hg : gainsA b s = (gainT (FillsA b s), 0) := by unfold gainsA; rw [if_pos hk, HFA.out]
  rw [hg]
  have x0 := cell_of_row _ w.heap.size 0 _ _ (0, 0) t0
  have x1 := cell_of_row _ (w.heap.size + 1) 0 _ _ (0, 0) t1
  simp only [List.getElem?_toArray, List.getElem?_cons_zero] at x0 x1
  have HT0 := hide t0
  have HT1 := hide t1
  have HT2 := hide t2
  have HW := hide h
  have HW' := hide h'
  have HZ := hide hz
  have HZ' := hide hz'
  clear t0 t1 t2 h h' hz hz' hwA hwA' hg hk
  refine (callsIn_wide (n := 9)).1 ?_
  refine callsIn_of_wp_marks Try.func13 rfl trivial ?_ rfl
  simp only [Try.ntmps13, List.size_toArray, List.length_cons, List.length_nil, Nat.reduceAdd, Nat.reduceSub, Array.replicate_succ, Array.replicate_zero, List.push_toArray, List.append_toArray, List.nil_append, List.cons_append]
  gi_wp2_with fail
  refine ⟨trivial, (callsIn_wide.2 HC.out).mono ?_⟩
  rintro e w2 ⟨rfl, hb2⟩
  simp only
  generalize (w.alloc (.cells #[.slice A b.length c] 22)).alloc (.cells #[.slice A' s.length c'] 22) = w1 at *
  have HB2 := hide (HT2.out.trans (hb2.mono HT2.out.size))
  have H20 := hide ((hb2.block _ (lt_of_block HT0.out)).trans HT0.out)
  have H21 := hide ((hb2.block _ (lt_of_block HT1.out)).trans HT1.out)
  clear hb2 HC HT0 HT1 HT2 x0 x1
  have x0 := cell_of_row _ w.heap.size 0 _ _ (0, 0) H20.out
  have x1 := cell_of_row _ (w.heap.size + 1) 0 _ _ (0, 0) H21.out
  simp only [List.getElem?_toArray, List.getElem?_cons_zero] at x0 x1
  have HB3 : Hid (Below w2.heap.size w2 (w2.alloc (.cells #[.int .i64 0] 2))) := hide ((Below.refl _ _).alloc (Nat.le_refl _) _)
  have HQ : Hid ((w2.alloc (.cells #[.int .i64 0] 2)).heap[w2.heap.size]? = some (.cells #[.int .i64 0] 2 (0, 0))) := hide (heap_alloc_new w2 _)
  have y0 := (HB3.out.cell (World.block_lt_of_cell? _ _ x0)).trans x0
  have y1 := (HB3.out.cell (World.block_lt_of_cell? _ _ x1)).trans x1
  clear x0 x1
  gi_wp2_with fail
  have HW2 := hide ((HW.out.below HB2.out).more HB2.out.size)
  have HW2' := hide ((HW'.out.below HB2.out).more HB2.out.size)
  have HLT : Hid (w.heap.size + 1 < w2.heap.size) := hide (lt_of_block H21.out)
  have HF := hide (fills_any A c b A' c' s (w2.alloc (.cells #[.int .i64 0] 2)) ((HW2.out.below HB3.out).more HB3.out.size) ((HW2'.out.below HB3.out).more HB3.out.size) (by have := HOK.out.1.1; omega) (by have := HOK.out.2.1; omega) HZ.out HZ'.out)
  refine ⟨trivial, (callsIn_wide.2 HF.out).mono ?_⟩
  rintro e w4 ⟨rfl, hb4, A2, c2, A3, c3, hc2, hc3, ho2, ho3⟩
  simp only
  obtain ⟨q, hq⟩ : ∃ q, q = w2.heap.size := ⟨_, rfl⟩
  have HZ3 : Hid ((w2.alloc (.cells #[.int .i64 0] 2)).heap.size = q + 1) := hide (by rw [hq]; simp)
  generalize w2.alloc (.cells #[.int .i64 0] 2) = w3 at *
  have HB4 := hide hb4
  rw [HZ3.out] at hc2 hc3 ho2 ho3
  simp only [HZ3.out]
  have HC2 := hide hc2
  have HC3 := hide hc3
  have HO2 := hide ho2
  have HO3 := hide ho3
  have HQ4 := hide ((hb4.block _ (lt_of_block HQ.out)).trans HQ.out)
  have H40 := hide ((hb4.block _ (lt_of_block ((HB3.out.block _ (lt_of_block H20.out)).trans H20.out))).trans ((HB3.out.block _ (lt_of_block H20.out)).trans H20.out))
  have H41 := hide ((hb4.block _ (lt_of_block ((HB3.out.block _ (lt_of_block H21.out)).trans H21.out))).trans ((HB3.out.block _ (lt_of_block H21.out)).trans H21.out))
  have HB24 := hide (HB2.out.trans ((HB3.out.trans (hb4.mono HB3.out.size)).mono HB2.out.size))
  have HQW : Hid (w.heap.size + 2 ≤ q ∧ q + 2 < w4.heap.size) := hide ⟨by have := HLT.out; omega, by have := lt_of_block hc3; omega⟩
  have HWA := hide (HW.out.below HB24.out)
  have HWA' := hide (HW'.out.below HB24.out)
  rw [← hq] at HQ4 ⊢
  clear hb4 hc2 hc3 ho2 ho3 y0 y1 HF HB3 HQ HB4 H20 H21 HW2 HW2' HB2 HLT hq
  gi_wp2_with fail
  refine wpIn_rangeSeqL (α := Trd) (encs := encF) (E := fun pre x _ => pre ++ [x] <+: FillsA b s) (S := fun xs => xs = FillsA b s) (Sp := fun pre => pre <+: FillsA b s) (gf := 37) (lb := #[.pointer (some ⟨q + 1, 0, none⟩), .pointer (some ⟨q + 1 + 1, 0, none⟩)]) rfl (enters_of Try.func37 (by kernel_rfl) rfl) (fun i => i = q) (fun _ _ => False)
    (fun h => by have := HQW.out; omega) (fun h => by have := HQW.out; omega) (fun _ _ _ _ _ h => h.elim)
    (fun W hb hz => fills_seq (fun k => k = q ∨ k = w4.heap.size + 1) A2 c2 b A3 c3 s (q + 1) (q + 1 + 1) W
      ((hb.cell (World.block_lt_of_cell? _ _ (cell_of_row _ _ 0 _ _ (0, 0) HC2.out))).trans (cell_of_row _ _ 0 _ _ (0, 0) HC2.out)) ((hb.cell (World.block_lt_of_cell? _ _ (cell_of_row _ _ 0 _ _ (0, 0) HC3.out))).trans (cell_of_row _ _ 0 _ _ (0, 0) HC3.out))
      (((Reads.of_own HO2.out).below hb).more hb.size) (((Reads.of_own HO3.out).below hb).more hb.size) (fun i hi => by have := HQW.out; rcases hi with hi | hi <;> omega)
      (fun _ x hx h => by have h1 := own_blk HO2.out x hx; rcases h with h | h <;> omega) (fun _ x hx h => by have h1 := own_blk HO3.out x hx; rcases h with h | h <;> omega))
    (fun _ => rfl) (GnI q w4) (fun _ _ _ => False) (GnI.low (by have := HQW.out; omega)) (fun _ _ _ _ h _ => h.elim) ⟨HQ4.out, Turns.refl _ _⟩
    ?a1 (fun x W => W.alloc (.cells #[.int .i64 x.1.1, .int .i64 x.2.1.1, .int .i64 x.2.2] 55)) (fun x W => (Below.refl _ _).alloc (Nat.le_refl _) _) 7 ?assign ?body ?done ?stop
  case assign =>
    rintro l' pre x W K he hK
    clear he
    simp only [encF]
    gi_wp2
    exact hK
  case body =>
    rintro l' pre x W0 W ⟨hc, ht⟩ hE hsz hsz2 hsame
    obtain ⟨hgz, hgn⟩ := trd_gain HOK.out.1 HOK.out.2 (t := x) (by rw [← HFA.out]; exact hE.subset (by simp))
    obtain ⟨⟨g1, g2⟩, ⟨g3, g4⟩, g5, ⟨e1, g6⟩, ⟨e2, g7⟩, _⟩ := run_trd HOK.out.1 HOK.out.2 (t := x) (by rw [← HFA.out]; exact hE.subset (by simp))
    have hgs : gainT (pre ++ [x]) = gainT pre + x.2.2 * (x.1.2 - x.2.1.2) := gainT_snoc _ _
    have hgb : 0 ≤ gainT pre ∧ gainT pre + x.2.2 * (x.1.2 - x.2.1.2) ≤ 576460752303423488 := by
      have hsub : ∀ t ∈ pre ++ [x], t ∈ (RunA b s).1 := fun t ht => by rw [← HFA.out]; exact hE.subset ht
      have h1 := gainT_bound (pre ++ [x]) (fun t ht => (trd_gain HOK.out.1 HOK.out.2 (hsub t ht)).2)
      have h2 := gainT_bound pre (fun t ht => (trd_gain HOK.out.1 HOK.out.2 (hsub t (List.mem_append_left _ ht))).2)
      have h3 := hE.length_le
      have h4 := run_few HOK.out.1 HOK.out.2
      have h5 := HOK.out.1.1
      have h6 := HOK.out.2.1
      rw [HFA.out] at h3
      rw [hgs] at h1
      omega
    have HGS := hide hgs
    obtain ⟨⟨x0, x1⟩, ⟨y0, y1⟩, n⟩ := x
    simp only at *
    obtain ⟨i, rfl⟩ := Int.eq_ofNat_of_zero_le g1
    obtain ⟨k, rfl⟩ := Int.eq_ofNat_of_zero_le g3
    rw [Int.toNat_natCast] at g6 g7
    obtain ⟨bb, o, rfl, hbb, hcb⟩ := Wants.at_ HWA.out (by omega)
    obtain ⟨sb, o', rfl, hsb, hcs⟩ := Wants.at_ HWA'.out (by omega)
    have hOT : OutP (fun k => k = q) w4 W := ⟨ht.size, ht.block⟩
    have hbq : bb ≠ q ∧ sb ≠ q := ⟨by have := HQW.out; omega, by have := HQW.out; omega⟩
    have u0 := hOT.cell (hcb i _ g6).1 hbq.1
    have u1 := hOT.cell (hcs k _ g7).1 hbq.2
    have u2 := hOT.cell (cell_of_row _ _ 0 _ _ (0, 0) H40.out) (show w.heap.size ≠ q by have := HQW.out; omega)
    have u3 := hOT.cell (cell_of_row _ _ 0 _ _ (0, 0) H41.out) (show w.heap.size + 1 ≠ q by have := HQW.out; omega)
    have hfill : W.heap[W0.heap.size]? = some (.cells #[.int .i64 (i : Int), .int .i64 (k : Int), .int .i64 n] 55 (0, 0)) := (hsame _ (by omega)).trans (heap_alloc_new W0 _)
    have u4 := cell_of_row _ _ 0 _ _ (0, 0) hfill
    have u5 := cell_of_row _ _ 1 _ _ (0, 0) hfill
    have u6 := cell_of_row _ _ 2 _ _ (0, 0) hfill
    have u7 := cell_of_row _ _ 0 _ _ (0, 0) hc
    have u8 := frozen_of_row _ _ 0 _ _ hc
    simp only [List.getElem?_toArray, List.getElem?_cons_zero, List.getElem?_cons_succ] at u2 u3 u4 u5 u6 u7
    obtain ⟨z, hz⟩ : ∃ z, z = x1 - y1 := ⟨_, rfl⟩
    obtain ⟨p, hp⟩ : ∃ p, p = n * z := ⟨_, rfl⟩
    obtain ⟨G, hG⟩ : ∃ G, G = gainT pre := ⟨_, rfl⟩
    rw [← hz, ← hp] at hgn hgb HGS
    rw [← hz] at hgz
    rw [← hG] at hgb HGS u7
    have hw1 : IntKind.i64.wrap (x1 - y1) = z := by rw [hz]; exact Go.IntWalk.i64_in _ (by omega)
    have hw2 : IntKind.i64.wrap (n * z) = p := by rw [hp] at hgn ⊢; exact Go.IntWalk.i64_in _ (by omega)
    have hw3 : IntKind.i64.wrap (G + p) = G + p := Go.IntWalk.i64_in _ (by omega)
    have hib : (i : Int) < (b.length : Int) := g2
    have hks : (k : Int) < (s.length : Int) := g4
    have hin : i < b.length := by omega
    have hkn : k < s.length := by omega
    have HT := hide ht
    have HCQ := hide hc
    have hmx : Try.prog.follows .mixedOrders = true := by kernel_rfl
    clear hc ht hE hsz hsz2 hsame hgz hgn g1 g3 g5 g6 g7 hcb hcs hOT hbq hfill hz hp hgs hgb hbb hsb hG
    gi_wp2_with fail
    refine wpIn_region_U 18 (fun X => X = W.drew) hmx (by kernel_rfl) rfl (fun hHeld => ?_)
    refine AnyU.take (i := 0) (v := ?v101) rfl (by kernel_rfl) (by kernel_rfl) (by kernel_rfl) (by kernel_rfl) (fun _ _ _ h => h) (Or.inl ⟨by rfl, ?hy101⟩) hHeld ?r101
    case hy101 => (intro w hSw; (try dsimp only at hSw); subst hSw; go_simp <;> with_reducible rfl)
    simp only [Act.put, List.setIfInBounds_toArray, List.set_cons_zero, List.set_cons_succ]
    refine AnyU.take (i := 1) (v := ?v102) rfl (by kernel_rfl) (by kernel_rfl) (by kernel_rfl) (by kernel_rfl) (fun _ _ _ h => h) (Or.inl ⟨by rfl, ?hy102⟩) hHeld ?r102
    case hy102 => (intro w hSw; (try dsimp only at hSw); subst hSw; go_simp <;> with_reducible rfl)
    simp only [Act.put, List.setIfInBounds_toArray, List.set_cons_zero, List.set_cons_succ]
    refine AnyU.take (i := 2) (v := ?v103) rfl (by kernel_rfl) (by kernel_rfl) (by kernel_rfl) (by kernel_rfl) (fun _ _ _ h => h) (Or.inl ⟨by rfl, ?hy103⟩) hHeld ?r103
    case hy103 => (intro w hSw; (try dsimp only at hSw); subst hSw; go_simp <;> with_reducible rfl)
    simp only [Act.put, List.setIfInBounds_toArray, List.set_cons_zero, List.set_cons_succ]
    refine AnyU.take (i := 3) (v := ?v104) rfl (by kernel_rfl) (by kernel_rfl) (by kernel_rfl) (by kernel_rfl) (fun _ _ _ h => h) (Or.inl ⟨by rfl, ?hy104⟩) hHeld ?r104
    case hy104 => (intro w hSw; (try dsimp only at hSw); subst hSw; go_simp <;> with_reducible rfl)
    simp only [Act.put, List.setIfInBounds_toArray, List.set_cons_zero, List.set_cons_succ]
    refine AnyU.take (i := 4) (v := ?v105) rfl (by kernel_rfl) (by kernel_rfl) (by kernel_rfl) (by kernel_rfl) (fun _ _ _ h => h) (Or.inl ⟨by rfl, ?hy105⟩) hHeld ?r105
    case hy105 => (intro w hSw; (try dsimp only at hSw); subst hSw; go_simp <;> with_reducible rfl)
    simp only [Act.put, List.setIfInBounds_toArray, List.set_cons_zero, List.set_cons_succ]
    refine AnyU.take (i := 5) (v := ?v106) rfl (by kernel_rfl) (by kernel_rfl) (by kernel_rfl) (by kernel_rfl) (fun _ _ _ h => h) (Or.inl ⟨by rfl, ?hy106⟩) hHeld ?r106
    case hy106 => (intro w hSw; (try dsimp only at hSw); subst hSw; go_simp <;> with_reducible rfl)
    simp only [Act.put, List.setIfInBounds_toArray, List.set_cons_zero, List.set_cons_succ]
    refine AnyU.take (i := 6) (v := ?v107) rfl (by kernel_rfl) (by kernel_rfl) (by kernel_rfl) (by kernel_rfl) (fun _ _ _ h => h) (Or.inl ⟨by rfl, ?hy107⟩) hHeld ?r107
    case hy107 => (intro w hSw; (try dsimp only at hSw); subst hSw; go_simp <;> with_reducible rfl)
    simp only [Act.put, List.setIfInBounds_toArray, List.set_cons_zero, List.set_cons_succ]
    refine AnyU.take (i := 7) (v := ?v108) rfl (by kernel_rfl) (by kernel_rfl) (by kernel_rfl) (by kernel_rfl) (fun _ _ _ h => h) (Or.inl ⟨by rfl, ?hy108⟩) hHeld ?r108
    case hy108 => (intro w hSw; (try dsimp only at hSw); subst hSw; go_simp <;> with_reducible rfl)
    simp only [Act.put, List.setIfInBounds_toArray, List.set_cons_zero, List.set_cons_succ]
    refine AnyU.take (i := 8) (v := ?v109) rfl (by kernel_rfl) (by kernel_rfl) (by kernel_rfl) (by kernel_rfl) (fun _ _ _ h => h) (Or.inl ⟨by rfl, ?hy109⟩) hHeld ?r109
    case hy109 => (intro w hSw; (try dsimp only at hSw); subst hSw; go_simp <;> with_reducible rfl)
    simp only [Act.put, List.setIfInBounds_toArray, List.set_cons_zero, List.set_cons_succ]
    refine AnyU.take (i := 9) (v := ?v110) rfl (by kernel_rfl) (by kernel_rfl) (by kernel_rfl) (by kernel_rfl) (fun _ _ _ h => h) (Or.inl ⟨by rfl, ?hy110⟩) hHeld ?r110
    case hy110 => (intro w hSw; (try dsimp only at hSw); subst hSw; go_simp <;> with_reducible rfl)
    simp only [Act.put, List.setIfInBounds_toArray, List.set_cons_zero, List.set_cons_succ]
    refine AnyU.take (i := 10) (v := ?v111) rfl (by kernel_rfl) (by kernel_rfl) (by kernel_rfl) (by kernel_rfl) (fun _ _ _ h => h) (Or.inl ⟨by rfl, ?hy111⟩) hHeld ?r111
    case hy111 => (intro w hSw; (try dsimp only at hSw); subst hSw; go_simp <;> with_reducible rfl)
    simp only [Act.put, List.setIfInBounds_toArray, List.set_cons_zero, List.set_cons_succ]
    refine AnyU.take (i := 11) (v := ?v112) rfl (by kernel_rfl) (by kernel_rfl) (by kernel_rfl) (by kernel_rfl) (fun _ _ _ h => h) (Or.inl ⟨by rfl, ?hy112⟩) hHeld ?r112
    case hy112 => (intro w hSw; (try dsimp only at hSw); subst hSw; go_simp <;> with_reducible rfl)
    simp only [Act.put, List.setIfInBounds_toArray, List.set_cons_zero, List.set_cons_succ]
    refine AnyU.take (i := 12) (v := ?v113) rfl (by kernel_rfl) (by kernel_rfl) (by kernel_rfl) (by kernel_rfl) (fun _ _ _ h => h) (Or.inl ⟨by rfl, ?hy113⟩) hHeld ?r113
    case hy113 => (intro w hSw; (try dsimp only at hSw); subst hSw; go_simp <;> with_reducible rfl)
    simp only [Act.put, List.setIfInBounds_toArray, List.set_cons_zero, List.set_cons_succ]
    refine AnyU.take (i := 13) (v := ?v114) rfl (by kernel_rfl) (by kernel_rfl) (by kernel_rfl) (by kernel_rfl) (fun _ _ _ h => h) (Or.inl ⟨by rfl, ?hy114⟩) hHeld ?r114
    case hy114 => (intro w hSw; (try dsimp only at hSw); subst hSw; go_simp <;> with_reducible rfl)
    simp only [Act.put, List.setIfInBounds_toArray, List.set_cons_zero, List.set_cons_succ]
    refine AnyU.take (i := 14) (v := ?v115) rfl (by kernel_rfl) (by kernel_rfl) (by kernel_rfl) (by kernel_rfl) (fun _ _ _ h => h) (Or.inl ⟨by rfl, ?hy115⟩) hHeld ?r115
    case hy115 => (intro w hSw; (try dsimp only at hSw); subst hSw; go_simp <;> with_reducible rfl)
    simp only [Act.put, List.setIfInBounds_toArray, List.set_cons_zero, List.set_cons_succ]
    refine AnyU.take (i := 15) (v := ?v116) rfl (by kernel_rfl) (by kernel_rfl) (by kernel_rfl) (by kernel_rfl) (fun _ _ _ h => h) (Or.inl ⟨by rfl, ?hy116⟩) hHeld ?r116
    case hy116 => (intro w hSw; (try dsimp only at hSw); subst hSw; go_simp <;> with_reducible rfl)
    simp only [Act.put, List.setIfInBounds_toArray, List.set_cons_zero, List.set_cons_succ]
    refine AnyU.take (i := 16) (v := ?v117) rfl (by kernel_rfl) (by kernel_rfl) (by kernel_rfl) (by kernel_rfl) (fun _ _ _ h => h) (Or.inl ⟨by rfl, ?hy117⟩) hHeld ?r117
    case hy117 => (intro w hSw; (try dsimp only at hSw); subst hSw; go_simp <;> with_reducible rfl)
    simp only [Act.put, List.setIfInBounds_toArray, List.set_cons_zero, List.set_cons_succ]
    refine AnyU.take (i := 17) (v := ?v118) rfl (by kernel_rfl) (by kernel_rfl) (by kernel_rfl) (by kernel_rfl) (fun _ _ _ h => h) (Or.inl ⟨by rfl, ?hy118⟩) hHeld ?r118
    case hy118 => (intro w hSw; (try dsimp only at hSw); subst hSw; go_simp <;> with_reducible rfl)
    simp only [Act.put, List.setIfInBounds_toArray, List.set_cons_zero, List.set_cons_succ]
    refine AnyU.next (js := [18]) (by kernel_rfl) (by simp) (NextU.cons rfl (fun K hK => ?_) NextU.nil)
    go_simp
    refine hK.out _ _ (fun h => absurd h (by decide)) (fun _ => ?_)
    try simp only [Act.put, List.setIfInBounds_toArray, List.set_cons_zero, List.set_cons_succ]
    refine AnyU.over (by kernel_rfl) ?_ _
    refine ⟨⟨by simp [World.drew], fun j hj hn => Below.heap_setCell W _ _ j (fun e => hn (.inl e))⟩, ?_, ?_⟩
    · rw [HGS.out]
      exact setCell_block HCQ.out 0 _
    · exact HT.out.trans ⟨rfl, rfl, rfl, by simp [World.drew], fun j hj hn => Below.heap_setCell W _ _ j hn⟩
  case done =>
    rintro D xs W hD hS ⟨hc, ht⟩ hK
    subst hS
    have HC := hide hc
    have HT := hide ht
    have HK := hide hK
    have c0 := cell_of_row _ _ 0 _ _ (0, 0) hc
    clear hc ht hK
    gi_wp2_with fail
    exact gains_end (by have := HQW.out; omega) HK.out (HB24.out.trans (HT.out.below (by have := HQW.out; omega) (fun k hk e => by have := HQW.out; omega))) (fun W' => by simp [results, Try.results13, go_sem])
  case stop =>
    rintro D c' pre W hD hpre h hK
    exact h.elim
end Go.Proofs.Ytogicdljbnllgaa
