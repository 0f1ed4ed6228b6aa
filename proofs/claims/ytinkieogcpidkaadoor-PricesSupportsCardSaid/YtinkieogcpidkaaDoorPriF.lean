/- The walks of the document's Cost, Gain, Check, bound, Bound, Rest, Supports; of prices.Supports. -/
import Derived.Test.YtinkieogcpidkaaDoorPriP
namespace Go.Proofs.YtinkieogcpidkaaDoor
open Go.RowKit Go.Maps Go.Shelf
open Go.ChangeMaps Go.WideMaps

theorem shr_bit (g i : Nat) : (((g : Int) / 2 ^ i).tmod 2 == 1) = g.testBit i := by
  have e : ((g : Int) / 2 ^ i).tmod 2 = ((g / 2 ^ i % 2 : Nat) : Int) := by
    rw [Int.tmod_eq_emod_of_nonneg (Int.ediv_nonneg (by omega) (Int.pow_nonneg (by omega)))]
    simp
  rw [e, Nat.testBit_eq_decide_div_mod_eq, Bool.eq_iff_iff, beq_iff_eq, decide_eq_true_eq]
  omega
theorem costN_hit {cnt : Nat → Int} {g i : Nat} (h : g.testBit i = true) : costN cnt g (i + 1) = IntKind.i64.wrap (costN cnt g i + cnt i) := by simp only [costN, addW]; rw [if_pos h]
theorem costN_miss {cnt : Nat → Int} {g i : Nat} (h : g.testBit i = false) : costN cnt g (i + 1) = costN cnt g i := by simp only [costN, addW]; rw [if_neg (by rw [h]; simp)]
set_option maxRecDepth 100000 in
set_option maxHeartbeats 4000000 in
theorem refcost_any (P : Option Addr) (pc : Nat) (p : List Int) (g : Nat) (hg : g < 4294967296) (w : World) (hp : One intV w w.heap.size P p) (hpl : p.length ≤ 1000000) :
    Calls Tryd.prog 28 #[.slice P p.length pc, .int .u32 (g : Int)] w (ValPost (.int .i64 (costC (cntP p) g)) w) := by
  have hat := One.at_ hp
  have HEN := hide (fun i h1 h2 => cost_min (p := p) hg (i := i) h1 h2)
  obtain ⟨R, hR⟩ : ∃ R, R = costC (cntP p) g := ⟨_, rfl⟩
  rw [← hR] at HEN ⊢
  clear hp hR
  go_enter Tryd.func28, Tryd.ntmps28
  go_wp2_with fail
  go_loopw [5, 6] (fun sv iv wr => ∃ i : Nat, i ≤ p.length ∧ i ≤ 32 ∧ sv = .int .i64 (costN (cntP p) g i) ∧ iv = .int .i64 i ∧ w = wr) (fun _ iv _ => 32 - (intOf iv).toNat)
  case atStart => exact ⟨0, Nat.zero_le _, by omega, rfl, rfl, by trivial⟩
  case round =>
    obtain ⟨i, hi, hi32, rfl, rfl, rfl⟩ := hrel
    by_cases hlt : i < p.length
    · have hil : (i : Int) < (p.length : Int) := by omega
      by_cases h32 : i < 32
      · have hi2 : (i : Int) < 32 := by omega
        obtain ⟨b, o, rfl, hbB, hcc⟩ := hat (by omega)
        obtain ⟨x, hx⟩ : ∃ x, p[i]? = some x := ⟨p[i], List.getElem?_eq_getElem hlt⟩
        have d0 := hcc i x hx
        have hcx : cntP p i = x := by unfold cntP; rw [List.getD_eq_getElem?_getD, hx]; rfl
        have hsb := shr_bit g i
        obtain ⟨sm, hsm⟩ : ∃ sm, costN (cntP p) g i = sm := ⟨_, rfl⟩
        rw [hsm]
        cases htb : g.testBit i
        · rw [htb] at hsb
          have HN : Hid (costN (cntP p) g (i + 1) = sm) := hide ((costN_miss htb).trans hsm)
          clear htb hx hcx hcc hat hsm
          go_wp2_with fail
          go_roundw
          case rel => exact ⟨i + 1, by omega, by omega, by rw [HN.out], by go_num, by trivial⟩
          case measure => simp [intOf]; omega
        · rw [htb] at hsb
          obtain ⟨s2, hs2⟩ : ∃ s2, IntKind.i64.wrap (sm + x) = s2 := ⟨_, rfl⟩
          have HN : Hid (costN (cntP p) g (i + 1) = s2) := hide (by rw [costN_hit htb, hsm, hcx]; exact hs2)
          clear htb hx hcx hcc hat hsm
          go_wp2_with fail
          go_roundw
          case rel => exact ⟨i + 1, by omega, by omega, by rw [HN.out], by go_num, by trivial⟩
          case measure => simp [intOf]; omega
      · have HN := hide (HEN.out i hi32 (.inl (by omega)))
        have hi2 : ¬ ((i : Int) < 32) := by omega
        go_wp2_with fail
        go_ret
        exact ⟨by rw [HN.out]; rfl, Below.refl _ _⟩
    · have HN := hide (HEN.out i hi32 (.inr (by omega)))
      have hil : ¬ ((i : Int) < (p.length : Int)) := by omega
      go_wp2_with fail
      go_ret
      exact ⟨by rw [HN.out]; rfl, Below.refl _ _⟩

set_option maxRecDepth 100000 in
set_option maxHeartbeats 4000000 in
theorem refgain_any (A : Option Addr) (c : Nat) (l : List Offer) (P : Option Addr) (pc : Nat) (p : List Int) (free : Nat) (hf : free < 4294967296) (w : World)
    (ho : Offs w w.heap.size A l) (hl : l.length ≤ 1000000) (hw : OWide l) (hp : One intV w w.heap.size P p) (hpl : p.length ≤ 1000000) :
    Calls Tryd.prog 26 #[.slice A l.length c, .slice P p.length pc, .int .u32 (free : Int)] w (ValPost (.tuple #[.int .i64 (gainC (cntP p) free l).1, .int .i64 (gainC (cntP p) free l).2]) w) := by
  have hat := Offs.at_ ho
  have HWD := hide hw
  have HPP := hide hp
  obtain ⟨cnt, hcnt⟩ : ∃ cnt, cnt = cntP p := ⟨_, rfl⟩
  have HCN := hide hcnt
  rw [← hcnt]
  clear ho hw hp hcnt
  go_enter Tryd.func26, Tryd.ntmps26
  go_wp2_with fail
  go_loopw [8, 9, 10] (fun bv av iv wr => ∃ k : Nat, k ≤ l.length ∧ iv = .int .i64 k ∧ bv = .int .i64 (gainK cnt free l k).1 ∧ av = .int .i64 (gainK cnt free l k).2 ∧ Below w.heap.size w wr) (fun _ _ iv _ => l.length - (intOf iv).toNat)
  case atStart => exact ⟨0, Nat.zero_le _, rfl, rfl, rfl, Below.refl _ _⟩
  case round =>
    obtain ⟨k, hk, rfl, rfl, rfl, hb⟩ := hrel
    have HB := hide hb
    clear hb
    by_cases hlt : k < l.length
    · obtain ⟨b, o, rfl, hbB, hcc⟩ := hat (by omega)
      obtain ⟨x, hx⟩ : ∃ x, l[k]? = some x := ⟨l[k], List.getElem?_eq_getElem hlt⟩
      obtain ⟨hc0, hc1⟩ := hcc k x hx
      have d0 := (HB.out.cell (p := ⟨b, o + k * 2, none⟩) hbB).trans hc0
      have d1 := (HB.out.cell (p := ⟨b, o + k * 2 + 1, none⟩) hbB).trans hc1
      have hxw := HWD.out x (List.mem_of_getElem? hx)
      have HX := hide hx
      obtain ⟨xg, xc⟩ := x
      simp only at d0 d1 hxw
      have hg32 := hxw.1
      have hki : (k : Int) < (l.length : Int) := by omega
      obtain ⟨bt, ai, hG⟩ : ∃ bt ai, gainK cnt free l k = (bt, ai) := ⟨_, _, rfl⟩
      rw [hG]
      obtain ⟨co, hco⟩ : ∃ co, costC cnt xg = co := ⟨_, rfl⟩
      obtain ⟨y, hy⟩ : ∃ y, IntKind.i64.wrap (xc - co) = y := ⟨_, rfl⟩
      have HIT : Hid (withinB xg free = true → bt < y → gainK cnt free l (k + 1) = (y, (k : Int))) := hide (fun h1 h2 => by
        have := gain_hit (cnt := cnt) HX.out h1 (by rw [hG, hco, hy]; exact h2)
        rw [this]
        simp only
        rw [hco, hy])
      have HMISS : Hid (¬ (withinB xg free = true ∧ bt < y) → gainK cnt free l (k + 1) = (bt, ai)) := hide (fun h1 => by
        have := gain_miss (cnt := cnt) HX.out (by rw [hG, hco, hy]; exact h1)
        rw [this, hG])
      have HCO := hide hco
      have hbits := andNot_lessG xg free hg32 hf
      have HWI : Hid (withinB xg free = ((lessG xg free : Int) == 0)) := hide (u32_beq _).symm
      generalize (lessG xg free : Int) = z at *
      clear hc0 hc1 hcc hat hx hxw hG hco
      by_cases hz : z = 0
      case neg =>
        have hz1 : (z != 0) = true := by simpa using hz
        have HN := hide (HMISS.out (fun h => by have h1 := HWI.out.symm.trans h.1; simp at h1; exact hz h1))
        go_wp2_with fail
        go_roundw
        case rel => exact ⟨k + 1, by omega, by go_num, by rw [HN.out], by rw [HN.out], HB.out⟩
        case measure => simp [intOf]; omega
      subst hz
      have hwb : Hid (withinB xg free = true) := hide (HWI.out.trans rfl)
      go_upto_region 7 with fail
      have HCL := hide (refcost_any P pc p xg hg32 wr.drew (HPP.out.up HB.out.drew) hpl)
      rw [← HCN.out, HCO.out] at HCL
      have hS0 : wr.drew.cell? ⟨b, o + k * 2, none⟩ = some (.int .u32 (xg : Int)) ∧ wr.drew.cell? ⟨b, o + k * 2 + 1, none⟩ = some (.int .i64 xc) := ⟨d0, d1⟩
      refine wp_region_U 14 (fun X => X.cell? ⟨b, o + k * 2, none⟩ = some (.int .u32 (xg : Int)) ∧ X.cell? ⟨b, o + k * 2 + 1, none⟩ = some (.int .i64 xc)) rfl hS0 (fun hHeld => ?_)
      refine AnyU.take (i := 0) (v := ?v101) rfl (by kernel_rfl) (by kernel_rfl) (by kernel_rfl) (by kernel_rfl) (fun _ _ _ h => h) (Or.inl ⟨by rfl, ?hy101⟩) hHeld ?r101
      case hy101 => (intro w hSw; (try dsimp only at hSw); go_simp <;> with_reducible rfl)
      simp only [Act.put, List.setIfInBounds_toArray, List.set_cons_zero, List.set_cons_succ]
      refine AnyU.take (i := 1) (v := ?v102) rfl (by kernel_rfl) (by kernel_rfl) (by kernel_rfl) (by kernel_rfl) (fun _ _ _ h => h) (Or.inl ⟨by rfl, ?hy102⟩) hHeld ?r102
      case hy102 => (intro w hSw; (try dsimp only at hSw); go_simp <;> with_reducible rfl)
      simp only [Act.put, List.setIfInBounds_toArray, List.set_cons_zero, List.set_cons_succ]
      refine AnyU.take (i := 2) (v := ?v103) rfl (by kernel_rfl) (by kernel_rfl) (by kernel_rfl) (by kernel_rfl) (fun _ _ _ h => h) (Or.inl ⟨by rfl, ?hy103⟩) hHeld ?r103
      case hy103 => (intro w hSw; (try dsimp only at hSw); go_simp <;> with_reducible rfl)
      simp only [Act.put, List.setIfInBounds_toArray, List.set_cons_zero, List.set_cons_succ]
      refine AnyU.take (i := 3) (v := ?v104) rfl (by kernel_rfl) (by kernel_rfl) (by kernel_rfl) (by kernel_rfl) (fun _ _ _ h => h) (Or.inl ⟨by rfl, ?hy104⟩) hHeld ?r104
      case hy104 => (intro w hSw; (try dsimp only at hSw); go_simp <;> with_reducible rfl)
      simp only [Act.put, List.setIfInBounds_toArray, List.set_cons_zero, List.set_cons_succ]
      refine AnyU.take (i := 4) (v := ?v105) rfl (by kernel_rfl) (by kernel_rfl) (by kernel_rfl) (by kernel_rfl) (fun _ _ _ h => h) (Or.inl ⟨by rfl, ?hy105⟩) hHeld ?r105
      case hy105 => (intro w hSw; (try dsimp only at hSw); go_simp <;> with_reducible rfl)
      simp only [Act.put, List.setIfInBounds_toArray, List.set_cons_zero, List.set_cons_succ]
      refine AnyU.take (i := 5) (v := ?v106) rfl (by kernel_rfl) (by kernel_rfl) (by kernel_rfl) (by kernel_rfl) (fun _ _ _ h => h) (Or.inl ⟨by rfl, ?hy106⟩) hHeld ?r106
      case hy106 => (intro w hSw; (try dsimp only at hSw); go_simp <;> with_reducible rfl)
      simp only [Act.put, List.setIfInBounds_toArray, List.set_cons_zero, List.set_cons_succ]
      refine AnyU.take (i := 6) (v := ?v107) rfl (by kernel_rfl) (by kernel_rfl) (by kernel_rfl) (by kernel_rfl) (fun _ _ _ h => h) (Or.inl ⟨by rfl, ?hy107⟩) hHeld ?r107
      case hy107 => (intro w hSw; (try dsimp only at hSw); go_simp <;> with_reducible rfl)
      simp only [Act.put, List.setIfInBounds_toArray, List.set_cons_zero, List.set_cons_succ]
      refine AnyU.take (i := 7) (v := ?v108) rfl (by kernel_rfl) (by kernel_rfl) (by kernel_rfl) (by kernel_rfl) (fun _ _ _ h => h) (Or.inl ⟨by rfl, ?hy108⟩) hHeld ?r108
      case hy108 => (intro w hSw; (try dsimp only at hSw); go_simp <;> with_reducible rfl)
      simp only [Act.put, List.setIfInBounds_toArray, List.set_cons_zero, List.set_cons_succ]
      refine AnyU.take (i := 8) (v := ?v109) rfl (by kernel_rfl) (by kernel_rfl) (by kernel_rfl) (by kernel_rfl) (fun _ _ _ h => h) (Or.inl ⟨by rfl, ?hy109⟩) hHeld ?r109
      case hy109 => (intro w hSw; (try dsimp only at hSw); go_simp <;> with_reducible rfl)
      simp only [Act.put, List.setIfInBounds_toArray, List.set_cons_zero, List.set_cons_succ]
      refine AnyU.take (i := 9) (v := ?v110) rfl (by kernel_rfl) (by kernel_rfl) (by kernel_rfl) (by kernel_rfl) (fun _ _ _ h => h) (Or.inl ⟨by rfl, ?hy110⟩) hHeld ?r110
      case hy110 => (intro w hSw; (try dsimp only at hSw); go_simp <;> with_reducible rfl)
      simp only [Act.put, List.setIfInBounds_toArray, List.set_cons_zero, List.set_cons_succ]
      refine AnyU.take (i := 10) (v := ?v111) rfl (by kernel_rfl) (by kernel_rfl) (by kernel_rfl) (by kernel_rfl) (fun _ _ _ h => h) (Or.inl ⟨by rfl, ?hy111⟩) hHeld ?r111
      case hy111 => (intro w hSw; (try dsimp only at hSw); go_simp <;> with_reducible rfl)
      simp only [Act.put, List.setIfInBounds_toArray, List.set_cons_zero, List.set_cons_succ]
      refine AnyU.next (js := [11]) (by kernel_rfl) (by simp) (NextU.cons rfl (fun K hK => ?_) NextU.nil)
      go_simp
      refine (HCL.out).mono ?_
      rintro e w2 ⟨rfl, hb2⟩
      have hS2 : w2.cell? ⟨b, o + k * 2, none⟩ = some (.int .u32 (xg : Int)) ∧ w2.cell? ⟨b, o + k * 2 + 1, none⟩ = some (.int .i64 xc) := ⟨(hb2.cell (World.block_lt_of_cell? _ _ hS0.1)).trans hS0.1, (hb2.cell (World.block_lt_of_cell? _ _ hS0.2)).trans hS0.2⟩
      have HB2 : Hid (Below w.heap.size w w2) := hide (HB.out.drew.trans (hb2.mono HB.out.size))
      clear hb2 hS0 HCL hHeld
      go_wp2_with fail
      refine hK.out _ _ (fun _ => hS2) (fun hHeld => ?_)
      replace hHeld := hHeld (by decide)
      try simp only [Act.put, List.setIfInBounds_toArray, List.set_cons_zero, List.set_cons_succ]
      refine AnyU.take (i := 12) (v := ?v112) rfl (by kernel_rfl) (by kernel_rfl) (by kernel_rfl) (by kernel_rfl) (fun _ _ _ h => h) (Or.inl ⟨by rfl, ?hy112⟩) hHeld ?r112
      case hy112 => (intro w hSw; (try dsimp only at hSw); go_simp <;> with_reducible rfl)
      simp only [Act.put, List.setIfInBounds_toArray, List.set_cons_zero, List.set_cons_succ]
      refine AnyU.take (i := 13) (v := ?v113) rfl (by kernel_rfl) (by kernel_rfl) (by kernel_rfl) (by kernel_rfl) (fun _ _ _ h => h) (Or.inl ⟨by rfl, ?hy113⟩) hHeld ?r113
      case hy113 => (intro w hSw; (try dsimp only at hSw); go_simp <;> with_reducible rfl)
      simp only [Act.put, List.setIfInBounds_toArray, List.set_cons_zero, List.set_cons_succ]
      clear hHeld hK K
      refine AnyU.over (by kernel_rfl) ?_ _
      by_cases hbt : bt < y
      · have HN := hide (HIT.out hwb.out hbt)
        go_wp2_with fail
        go_roundw
        case rel => exact ⟨k + 1, by omega, by go_num, by rw [HN.out], by rw [HN.out], HB2.out⟩
        case measure => simp [intOf]; omega
      · have HN := hide (HMISS.out (fun h => hbt h.2))
        go_wp2_with fail
        go_roundw
        case rel => exact ⟨k + 1, by omega, by go_num, by rw [HN.out], by rw [HN.out], HB2.out⟩
        case measure => simp [intOf]; omega
    · obtain rfl : k = l.length := by omega
      go_wp2_with fail
      go_ret2
      exact ⟨rfl, HB.out⟩
end Go.Proofs.YtinkieogcpidkaaDoor
