/- The walks of gavelref13.Gains, gavelref13.Same. -/
import Derived.Test.YtogicdljbnllgaaRefK
import Derived.Test.YtogicdljbnllgaaFairM
import Derived.Test.YtogicdljbnllgaaMost
namespace Go.Proofs.Ytogicdljbnllgaa
open Go.Shelf Go.RowKit Go.Lib Go.Sort Go.Proofs

theorem dot_take {u : List Int} {l : List (Int × Int)} {i : Nat} {x : Int} {z : Int × Int} (hu : u[i]? = some x) (hl : l[i]? = some z) : dotP (u.take (i + 1)) (l.take (i + 1)) 0 = dotP (u.take i) (l.take i) 0 + x * z.1 := by
  rw [take_snoc hu, take_snoc hl, dot_snoc _ _ _ _ _ (by
    have h1 := (List.getElem?_eq_some_iff.1 hu).1
    have h2 := (List.getElem?_eq_some_iff.1 hl).1
    rw [List.length_take, List.length_take]
    omega), Int.sub_zero]
/-- Partial sums are small. -/
theorem dot_part {u : List Int} {l : List (Int × Int)} (hl : OkW l) (h : ∀ (i : Nat) z a, l[i]? = some z → u[i]? = some a → 0 ≤ a ∧ a ≤ z.2) (hn : u.length = l.length) (i : Nat) : 0 ≤ dotP (u.take i) (l.take i) 0 ∧ dotP (u.take i) (l.take i) 0 ≤ 288230376151711744 := by
  have h1 := dot_bound (u.take i) (l.take i) (fun x hx => by
    obtain ⟨k, hk, rfl⟩ := List.getElem_of_mem (List.mem_of_mem_take hx)
    have hk' : k < l.length := by omega
    have := h k l[k] u[k] (List.getElem?_eq_getElem hk') (List.getElem?_eq_getElem hk)
    have := hl.2 l[k] (List.getElem_mem hk')
    omega) (fun z hz => by have := hl.2 z (List.mem_of_mem_take hz); omega)
  have h2 : (l.take i).length ≤ 4096 := by rw [List.length_take]; have := hl.1; omega
  omega
theorem prod_part {n z : Int} (hn : 0 ≤ n ∧ n ≤ 64) (hz : 0 ≤ z ∧ z ≤ 1099511627776) : 0 ≤ n * z ∧ n * z ≤ 70368744177664 := by
  have h1 : 0 ≤ n * z := Int.mul_nonneg hn.1 hz.1
  have h2 : n * z ≤ 64 * z := Int.mul_le_mul_of_nonneg_right hn.2 hz.1
  omega

set_option maxRecDepth 100000 in
set_option maxHeartbeats 8000000 in
theorem refgains_any (A : Option Addr) (c : Nat) (b : List (Int × Int)) (A' : Option Addr) (c' : Nat) (s : List (Int × Int)) (w : World) (h : Wants w w.heap.size A b) (h' : Wants w w.heap.size A' s) :
    Calls Try.prog 14 #[.slice A b.length c, .slice A' s.length c'] w (GainsP (gainsA b s) w) := by
  have HW := hide h
  have HW' := hide h'
  have HC := hide (refcheck_any A c b A' c' s w h h')
  clear h h'
  go_enter Try.func14, Try.ntmps14
  go_wp2_with fail
  refine (HC.out).mono ?_
  rintro e w1 ⟨rfl, b1⟩
  have HB1 := hide b1
  clear b1 HC
  by_cases hk : checkI b s = 0
  case neg =>
    have hg : gainsA b s = (0, checkI b s) := by unfold gainsA; rw [if_neg hk]
    have HGA := hide hg
    have hk1 : (checkI b s != 0) = true := by simpa using hk
    obtain ⟨ck, hck⟩ : ∃ ck, ck = checkI b s := ⟨_, rfl⟩
    rw [← hck] at hk1 HGA ⊢
    clear hk hg hck
    go_wp2_with fail
    refine bodyPost_ret (v := .tuple #[.int .i64 0, .int .i64 ck]) (by simp [results, Try.results14, go_sem]) rfl ?_
    exact ⟨by rw [HGA.out], HB1.out⟩
  have HOK := hide (ok_of_check hk)
  have hg : gainsA b s = (gainT (RunA b s).1, 0) := by unfold gainsA; rw [if_pos hk]
  have HGA := hide hg
  have HKZ := hide hk
  rw [hk]
  clear hk hg
  have HCL := hide (refclear_any A c b A' c' s w1 ((HW.out.below HB1.out).more HB1.out.size) ((HW'.out.below HB1.out).more HB1.out.size))
  go_wp2_with fail
  refine (HCL.out).mono ?_
  rintro e w2 ⟨b2, ⟨hno, _⟩ | ⟨_, g1, g2, rfl, _, _, _, hr1, hr2⟩⟩
  · exact absurd HKZ.out hno
  have hF := fair_clr HOK.out.1 HOK.out.2
  have hl : (clrOf b.length s.length (RunA b s)).2.2.2.2 = (givenB b.length (RunA b s).1, givenS s.length (RunA b s).1) := by
    by_cases hn : (RunA b s).1 = []
    · rw [clr_none hn, hn]
    · rw [clr_some hn]
  obtain ⟨C, hC⟩ : ∃ C, C = clrOf b.length s.length (RunA b s) := ⟨_, rfl⟩
  rw [← hC] at hF hl hr1 hr2 ⊢
  obtain ⟨pr, tr, lo, hi, l1, l2⟩ := C
  simp only [Prod.mk.injEq] at hl
  have HL := hide hl
  have HF := hide hF
  have hn1 := hF.lenB
  have hn2 := hF.lenS
  simp only at hn1 hn2 hr1 hr2
  have HN := hide (And.intro hn1 hn2)
  unfold calledV
  simp only [hn1, hn2]
  have HBE : Hid (Below w.heap.size w w2) := hide (HB1.out.trans (b2.mono HB1.out.size))
  have hal : Below w2.heap.size w2 (w2.alloc (.cells (six pr tr lo hi g1 b.length g2 s.length) 28)) := (Below.refl _ _).alloc (Nat.le_refl _) _
  have HB3 := hide (HBE.out.trans (hal.mono HBE.out.size))
  have HZ3 : Hid ((w2.alloc (.cells (six pr tr lo hi g1 b.length g2 s.length) 28)).heap[w2.heap.size]? = some (.cells (six pr tr lo hi g1 b.length g2 s.length) 28 (0, 0))) := hide (heap_alloc_new w2 _)
  have HR1 := hide ((hal.block _ (lt_of_block hr1)).trans hr1)
  have HR2 := hide ((hal.block _ (lt_of_block hr2)).trans hr2)
  clear hF hl hC hn1 hn2 hr1 hr2 b2 hal HCL HBE
  go_wp2_with fail
  obtain ⟨q, hq⟩ : ∃ q, q = w2.heap.size := ⟨_, rfl⟩
  generalize w2.alloc (.cells (six pr tr lo hi g1 b.length g2 s.length) 28) = w3 at *
  rw [← hq] at HZ3 ⊢
  clear hq
  have HUB : Hid (∀ (i : Nat) z a, b[i]? = some z → l1[i]? = some a → 0 ≤ a ∧ a ≤ z.2) := hide (fun i z a hz ha => by
    obtain ⟨a', h1, h2, h3, _⟩ := HF.out.buy i z hz
    simp only at h1
    rw [ha] at h1
    cases h1
    exact ⟨h2, h3⟩)
  have HUS : Hid (∀ (i : Nat) z a, s[i]? = some z → l2[i]? = some a → 0 ≤ a ∧ a ≤ z.2) := hide (fun i z a hz ha => by
    obtain ⟨a', h1, h2, h3, _⟩ := HF.out.sell i z hz
    simp only at h1
    rw [ha] at h1
    cases h1
    exact ⟨h2, h3⟩)
  go_loopw [9, 10] (fun sv iv wr => ∃ i : Nat, i ≤ b.length ∧ sv = .int .i64 (dotP (l1.take i) (b.take i) 0) ∧ iv = .int .i64 i ∧ ∃ m, wr = w3.drewN m) (fun _ iv _ => b.length - (intOf iv).toNat)
  case atStart => exact ⟨0, Nat.zero_le _, rfl, rfl, 0, rfl⟩
  case round =>
    obtain ⟨i, hi', rfl, rfl, m, rfl⟩ := hrel
    by_cases hlt : i < b.length
    · obtain ⟨⟨x, n⟩, hx⟩ : ∃ z, b[i]? = some z := ⟨b[i], List.getElem?_eq_getElem hlt⟩
      obtain ⟨a, ha⟩ : ∃ a, l1[i]? = some a := ⟨l1[i]'(by have := HN.out.1; omega), List.getElem?_eq_getElem _⟩
      obtain ⟨bb, bo, rfl, hbb, hcb⟩ := Wants.at_ HW.out (by omega)
      have u0 := (HB3.out.cell (p := ⟨bb, bo + i * 2, none⟩) hbb).trans (hcb i _ hx).1
      have u1 := cell_of_row _ _ 4 _ _ (0, 0) HZ3.out
      have u2 := row_at HR1.out ha
      simp only [List.getElem?_toArray, List.getElem?_cons_zero, List.getElem?_cons_succ] at u0 u1
      have hab := HUB.out i _ a hx ha
      have hxb := HOK.out.1.2 _ (List.mem_of_getElem? hx)
      have hpb := prod_part (n := a) (z := x) (by simp only at hab hxb; omega) (by simp only at hxb; omega)
      have hdt := dot_take ha hx
      have hd0 := dot_part HOK.out.1 HUB.out HN.out.1 i
      have hd1 := dot_part HOK.out.1 HUB.out HN.out.1 (i + 1)
      simp only at hdt
      obtain ⟨S0, hS0⟩ : ∃ S, S = dotP (l1.take i) (b.take i) 0 := ⟨_, rfl⟩
      obtain ⟨S1, hS1⟩ : ∃ S, S = dotP (l1.take (i + 1)) (b.take (i + 1)) 0 := ⟨_, rfl⟩
      obtain ⟨pd, hpd⟩ : ∃ p, p = a * x := ⟨_, rfl⟩
      rw [← hS0, ← hS1, ← hpd] at hdt
      rw [← hS0] at hd0 ⊢
      rw [← hS1] at hd1
      rw [← hpd] at hpb
      have hw1 : IntKind.i64.wrap (x * a) = pd := by rw [Int.mul_comm, ← hpd]; exact Go.IntWalk.i64_in _ (by omega)
      have hw2 : IntKind.i64.wrap (S0 + pd) = S1 := by rw [← hdt]; exact Go.IntWalk.i64_in _ (by omega)
      have hil : (i : Int) < (b.length : Int) := by omega
      have hk1 : IntKind.i64.wrap ((i : Int) + 1) = ((i + 1 : Nat) : Int) := by rw [Go.IntWalk.i64_in _ (by have := HOK.out.1.1; omega)]; omega
      have HS1 := hide hS1
      have hin := HN.out.1
      have hinn : i < b.length := hlt
      clear hbb hcb hx ha hab hxb hpb hdt hd0 hd1 hS0 hS1 hpd hin
      go_wp2_with fail
      go_quiet (fail)
      go_wp2_with fail
      go_roundw
      case rel => exact ⟨i + 1, by omega, by rw [← HS1.out], by first | go_num | exact congrArg (Value.int .i64) hk1, m + nq, by first | rfl | exact (World.drewN_add _ _ _).symm | exact World.drewN_add _ _ _⟩
      case measure => first | exact meas_i hlt hk1 | exact meas_i hlt (by omega)
    · obtain rfl : i = b.length := by omega
      have hG1 := dot_part HOK.out.1 HUB.out HN.out.1 b.length
      have hfull : dotP (l1.take b.length) (b.take b.length) 0 = dotP l1 b 0 := by rw [List.take_length, List.take_of_length_le (by have := HN.out.1; omega)]
      rw [hfull] at hG1 ⊢
      clear hfull
      obtain ⟨G1, hGG⟩ : ∃ G, G = dotP l1 b 0 := ⟨_, rfl⟩
      rw [← hGG] at hG1 ⊢
      have HG1 := hide hG1
      have HGG := hide hGG
      clear hG1 hGG
      go_wp2_with fail
      go_loopw [9, 11] (fun sv iv wr => ∃ i : Nat, i ≤ s.length ∧ sv = .int .i64 (G1 - dotP (l2.take i) (s.take i) 0) ∧ iv = .int .i64 i ∧ ∃ m, wr = w3.drewN m) (fun _ iv _ => s.length - (intOf iv).toNat)
      case atStart => exact ⟨0, Nat.zero_le _, by rw [show dotP (l2.take 0) (s.take 0) 0 = 0 from rfl, Int.sub_zero], rfl, m, rfl⟩
      case round =>
        obtain ⟨i, hi', rfl, rfl, m', rfl⟩ := hrel
        by_cases hlt : i < s.length
        · obtain ⟨⟨x, n⟩, hx⟩ : ∃ z, s[i]? = some z := ⟨s[i], List.getElem?_eq_getElem hlt⟩
          obtain ⟨a, ha⟩ : ∃ a, l2[i]? = some a := ⟨l2[i]'(by have := HN.out.2; omega), List.getElem?_eq_getElem _⟩
          obtain ⟨bb, bo, rfl, hbb, hcb⟩ := Wants.at_ HW'.out (by omega)
          have u0 := (HB3.out.cell (p := ⟨bb, bo + i * 2, none⟩) hbb).trans (hcb i _ hx).1
          have u1 := cell_of_row _ _ 5 _ _ (0, 0) HZ3.out
          have u2 := row_at HR2.out ha
          simp only [List.getElem?_toArray, List.getElem?_cons_zero, List.getElem?_cons_succ] at u0 u1
          have hab := HUS.out i _ a hx ha
          have hxb := HOK.out.2.2 _ (List.mem_of_getElem? hx)
          have hpb := prod_part (n := a) (z := x) (by simp only at hab hxb; omega) (by simp only at hxb; omega)
          have hdt := dot_take ha hx
          have hd0 := dot_part HOK.out.2 HUS.out HN.out.2 i
          have hd1 := dot_part HOK.out.2 HUS.out HN.out.2 (i + 1)
          have hg1 := HG1.out
          simp only at hdt
          obtain ⟨S0, hS0⟩ : ∃ S, S = G1 - dotP (l2.take i) (s.take i) 0 := ⟨_, rfl⟩
          obtain ⟨S1, hS1⟩ : ∃ S, S = G1 - dotP (l2.take (i + 1)) (s.take (i + 1)) 0 := ⟨_, rfl⟩
          obtain ⟨pd, hpd⟩ : ∃ p, p = a * x := ⟨_, rfl⟩
          rw [← hpd] at hdt hpb
          have hw1 : IntKind.i64.wrap (x * a) = pd := by rw [Int.mul_comm, ← hpd]; exact Go.IntWalk.i64_in _ (by omega)
          have hw2 : IntKind.i64.wrap (S0 - pd) = S1 := by
            have : S1 = S0 - pd := by omega
            rw [this]
            exact Go.IntWalk.i64_in _ (by omega)
          rw [← hS0]
          have hil : (i : Int) < (s.length : Int) := by omega
          have hk1 : IntKind.i64.wrap ((i : Int) + 1) = ((i + 1 : Nat) : Int) := by rw [Go.IntWalk.i64_in _ (by have := HOK.out.2.1; omega)]; omega
          have HS1 := hide hS1
          have hinn : i < s.length := hlt
          clear hbb hcb hx ha hab hxb hpb hdt hd0 hd1 hS0 hS1 hpd hg1
          go_wp2_with fail
          go_quiet (fail)
          go_wp2_with fail
          go_roundw
          case rel => exact ⟨i + 1, by omega, by rw [← HS1.out], by first | go_num | exact congrArg (Value.int .i64) hk1, m' + nq, by first | rfl | exact (World.drewN_add _ _ _).symm | exact World.drewN_add _ _ _⟩
          case measure => first | exact meas_i hlt hk1 | exact meas_i hlt (by omega)
        · obtain rfl : i = s.length := by omega
          have hfull : dotP (l2.take s.length) (s.take s.length) 0 = dotP l2 s 0 := by rw [List.take_length, List.take_of_length_le (by have := HN.out.2; omega)]
          rw [hfull, HGG.out]
          have hgd := gain_dot HOK.out.1 HOK.out.2 0
          rw [← HL.out.1, ← HL.out.2] at hgd
          rw [← hgd]
          obtain ⟨G, hG⟩ : ∃ G, G = gainT (RunA b s).1 := ⟨_, rfl⟩
          have HG := hide hG
          rw [← hG]
          clear hfull hgd hG
          go_wp2_with fail
          refine bodyPost_ret (v := .tuple #[.int .i64 G, .int .i64 0]) (by simp [results, Try.results14, go_sem]) rfl ?_
          exact ⟨by rw [HGA.out, HG.out], below_drewN HB3.out _⟩

set_option maxRecDepth 100000 in
set_option maxHeartbeats 4000000 in
theorem same_any (pr tr lo hi : Int) (A1 A2 A1' A2' : Option Addr) (c1 c2 c1' c2' : Nat) (l1 l2 : List Int) (w : World) (h1 : Ints w w.heap.size A1 l1) (h2 : Ints w w.heap.size A2 l2) (h1' : Ints w w.heap.size A1' l1) (h2' : Ints w w.heap.size A2' l2) (hn1 : l1.length ≤ 1000000) (hn2 : l2.length ≤ 1000000) :
    Calls Try.prog 19 #[.agg #[.int .i64 pr, .int .i64 tr, .int .i64 lo, .int .i64 hi, .slice A1 l1.length c1, .slice A2 l2.length c2], .agg #[.int .i64 pr, .int .i64 tr, .int .i64 lo, .int .i64 hi, .slice A1' l1.length c1', .slice A2' l2.length c2']] w (ValPost (.bool true) w) := by
  obtain ⟨t0, t1, t2⟩ := two_boxes w (.cells #[.int .i64 pr, .int .i64 tr, .int .i64 lo, .int .i64 hi, .slice A1 l1.length c1, .slice A2 l2.length c2] 28) (.cells #[.int .i64 pr, .int .i64 tr, .int .i64 lo, .int .i64 hi, .slice A1' l1.length c1', .slice A2' l2.length c2'] 28)
  have HT0 := hide t0
  have HT1 := hide t1
  have HT2 := hide t2
  have HS1 := hide (sameInts_eq A1 c1 A1' c1' l1 ((w.alloc (.cells #[.int .i64 pr, .int .i64 tr, .int .i64 lo, .int .i64 hi, .slice A1 l1.length c1, .slice A2 l2.length c2] 28)).alloc (.cells #[.int .i64 pr, .int .i64 tr, .int .i64 lo, .int .i64 hi, .slice A1' l1.length c1', .slice A2' l2.length c2'] 28)) ((h1.below t2).more t2.size) ((h1'.below t2).more t2.size) hn1)
  have HI := hide (And.intro h2 h2')
  have x0 := cell_of_row _ _ 0 _ _ (0, 0) t0
  have x1 := cell_of_row _ _ 1 _ _ (0, 0) t0
  have x2 := cell_of_row _ _ 2 _ _ (0, 0) t0
  have x3 := cell_of_row _ _ 3 _ _ (0, 0) t0
  have x4 := cell_of_row _ _ 4 _ _ (0, 0) t0
  have y0 := cell_of_row _ _ 0 _ _ (0, 0) t1
  have y1 := cell_of_row _ _ 1 _ _ (0, 0) t1
  have y2 := cell_of_row _ _ 2 _ _ (0, 0) t1
  have y3 := cell_of_row _ _ 3 _ _ (0, 0) t1
  have y4 := cell_of_row _ _ 4 _ _ (0, 0) t1
  simp only [List.getElem?_toArray, List.getElem?_cons_zero, List.getElem?_cons_succ] at x0 x1 x2 x3 x4 y0 y1 y2 y3 y4
  clear t0 t1 t2 h1 h2 h1' h2'
  go_enter Try.func19, Try.ntmps19
  go_wp2_with fail
  generalize (w.alloc (.cells #[.int .i64 pr, .int .i64 tr, .int .i64 lo, .int .i64 hi, .slice A1 l1.length c1, .slice A2 l2.length c2] 28)).alloc (.cells #[.int .i64 pr, .int .i64 tr, .int .i64 lo, .int .i64 hi, .slice A1' l1.length c1', .slice A2' l2.length c2'] 28) = w0 at *
  refine (HS1.out).mono ?_
  rintro e w1 ⟨rfl, b1⟩
  have hbb := HT2.out.trans (b1.mono HT2.out.size)
  have HBB := hide hbb
  have HS2 := hide (sameInts_eq A2 c2 A2' c2' l2 w1 ((HI.out.1.below hbb).more hbb.size) ((HI.out.2.below hbb).more hbb.size) hn2)
  have z0 := cell_of_row _ _ 5 _ _ (0, 0) ((b1.block _ (lt_of_block HT0.out)).trans HT0.out)
  have z1 := cell_of_row _ _ 5 _ _ (0, 0) ((b1.block _ (lt_of_block HT1.out)).trans HT1.out)
  simp only [List.getElem?_toArray, List.getElem?_cons_zero, List.getElem?_cons_succ] at z0 z1
  clear b1 hbb HS1 x0 x1 x2 x3 x4 y0 y1 y2 y3 y4
  go_wp2_with fail
  refine (HS2.out).mono ?_
  rintro e w2 ⟨rfl, b2⟩
  have HB2 := hide (HBB.out.trans (b2.mono HBB.out.size))
  clear b2 HS2 z0 z1
  go_wp2_with fail
  go_ret
  exact ⟨rfl, HB2.out⟩
end Go.Proofs.Ytogicdljbnllgaa
