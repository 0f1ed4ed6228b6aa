/- The walk of the law CallMost. -/
import Derived.Test.YtogicdljbnllgaaMostP
import Derived.Test.YtogicdljbnllgaaKnown
namespace Go.Proofs.Ytogicdljbnllgaa
open Go.Shelf Go.RowKit Go.Lib Go.Sort Go.Proofs

/-- Pairings in memory. -/
def flat3 (l : List (Int × Int × Int)) : List Value := l.flatMap fun p => [.int .i64 p.1, .int .i64 p.2.1, .int .i64 p.2.2]
theorem flat3_at : ∀ (l : List (Int × Int × Int)) (k : Nat) (p : Int × Int × Int), l[k]? = some p → (flat3 l)[k * 3]? = some (.int .i64 p.1) ∧ (flat3 l)[k * 3 + 1]? = some (.int .i64 p.2.1) ∧ (flat3 l)[k * 3 + 2]? = some (.int .i64 p.2.2)
  | [], k, p, h => by simp at h
  | x :: l, 0, p, h => by
    simp only [List.getElem?_cons_zero, Option.some.injEq] at h
    subst h
    exact ⟨rfl, rfl, rfl⟩
  | x :: l, k + 1, p, h => by
    obtain ⟨h1, h2, h3⟩ := flat3_at l k p (by simpa using h)
    rw [show (k + 1) * 3 = k * 3 + 1 + 1 + 1 by omega]
    exact ⟨h1, h2, h3⟩
def PairsW (w : World) (B : Nat) (A : Option Addr) (l : List (Int × Int × Int)) : Prop := Reads w B 3 A l.length (flat3 l)
theorem PairsW.at_ {w : World} {B : Nat} {A : Option Addr} {l : List (Int × Int × Int)} (h : PairsW w B A l) (hn : 0 < l.length) :
    ∃ b o, A = some ⟨b, o, none⟩ ∧ b < B ∧ ∀ (k : Nat) (p : Int × Int × Int), l[k]? = some p → w.cell? ⟨b, o + k * 3, none⟩ = some (.int .i64 p.1) ∧ w.cell? ⟨b, o + k * 3 + 1, none⟩ = some (.int .i64 p.2.1) ∧ w.cell? ⟨b, o + k * 3 + 2, none⟩ = some (.int .i64 p.2.2) := by
  obtain ⟨b, o, e, hb, hc⟩ := h.2 hn
  refine ⟨b, o, e, hb, fun k p hp => ?_⟩
  obtain ⟨h1, h2, h3⟩ := flat3_at l k p hp
  exact ⟨hc _ _ h1, by rw [Nat.add_assoc]; exact hc _ _ h2, by rw [Nat.add_assoc]; exact hc _ _ h3⟩
theorem check_of_ok {b s : List (Int × Int)} (hb : OkW b) (hs : OkW s) : checkI b s = 0 := by
  have key : ∀ l : List (Int × Int), OkW l → ¬ l.any badW = true := by
    intro l hl h
    obtain ⟨x, hx, hx2⟩ := List.any_eq_true.1 h
    have := hl.2 x hx
    unfold badW at hx2
    simp only [Bool.or_eq_true, decide_eq_true_eq] at hx2
    omega
  unfold checkI
  rw [if_neg (by have := hb.1; have := hs.1; omega), if_neg (fun h => h.elim (key b hb) (key s hs))]
theorem wants_take {w : World} {B : Nat} {A : Option Addr} {l : List (Int × Int)} (h : Wants w B A l) (n : Nat) : Wants w B A (l.take n) := by
  refine ⟨flat_len _, fun h0 => ?_⟩
  rw [List.length_take] at h0
  obtain ⟨b, o, e, hb, hc⟩ := h.2 (by omega)
  refine ⟨b, o, e, hb, fun j u hj => hc j u ?_⟩
  rw [← flat_take, List.getElem?_take] at hj
  split at hj
  · exact hj
  · cases hj
/-- The law's own rows. -/
structure MsI (w : World) (g1 g2 : Nat) (ub us : List Int) (W : World) : Prop where
  bel : Below w.heap.size w W
  ne : g1 ≠ g2
  lo : w.heap.size ≤ g1 ∧ w.heap.size ≤ g2
  b : W.heap[g1]? = some (.cells (rowI ub) 3 (0, 0))
  s : W.heap[g2]? = some (.cells (rowI us) 3 (0, 0))
section
variable {w W W' : World} {g1 g2 : Nat} {ub us : List Int}
theorem MsI.below (h : MsI w g1 g2 ub us W) (hb : Below W.heap.size W W') : MsI w g1 g2 ub us W' := ⟨h.bel.trans (hb.mono h.bel.size), h.ne, h.lo, (hb.block _ (lt_of_block h.b)).trans h.b, (hb.block _ (lt_of_block h.s)).trans h.s⟩
theorem row_at {W : World} {g : Nat} {l : List Int} (h : W.heap[g]? = some (.cells (rowI l) 3 (0, 0))) {i : Nat} {x : Int} (hx : l[i]? = some x) : W.cell? ⟨g, i, none⟩ = some (.int .i64 x) := by
  rw [cell_of_row W g i _ _ (0, 0) h]
  unfold rowI
  simp [hx]
theorem row_set {W : World} {g : Nat} {l : List Int} (h : W.heap[g]? = some (.cells (rowI l) 3 (0, 0))) (i : Nat) (n : Int) : (W.setCell ⟨g, i, none⟩ (.int .i64 (l.getD i 0 + n))).heap[g]? = some (.cells (rowI (addAt l i n)) 3 (0, 0)) := by
  have := setCell_block h i (.int .i64 (l.getD i 0 + n))
  rw [this]
  unfold rowI addAt
  rw [List.setIfInBounds_toArray, List.map_set]
theorem getD_of {l : List Int} {i : Nat} {x : Int} (h : l[i]? = some x) : l.getD i 0 = x := by rw [List.getD_eq_getElem?_getD, h]; rfl
theorem MsI.setb (h : MsI w g1 g2 ub us W) {i : Nat} {x n : Int} (hx : ub[i]? = some x) : MsI w g1 g2 (addAt ub i n) us (W.setCell ⟨g1, i, none⟩ (.int .i64 (x + n))) := by
  refine ⟨h.bel.setCell h.lo.1 _, h.ne, h.lo, ?_, (Below.heap_setCell W _ _ _ (fun e => h.ne e.symm)).trans h.s⟩
  have := row_set h.b i n
  rwa [getD_of hx] at this
theorem MsI.sets (h : MsI w g1 g2 ub us W) {i : Nat} {x n : Int} (hx : us[i]? = some x) : MsI w g1 g2 ub (addAt us i n) (W.setCell ⟨g2, i, none⟩ (.int .i64 (x + n))) := by
  refine ⟨h.bel.setCell h.lo.2 _, h.ne, h.lo, (Below.heap_setCell W _ _ _ h.ne).trans h.b, ?_⟩
  have := row_set h.s i n
  rwa [getD_of hx] at this
end

set_option maxRecDepth 100000 in
set_option maxHeartbeats 8000000 in
theorem most_any (A : Option Addr) (c : Nat) (b : List (Int × Int)) (A' : Option Addr) (c' : Nat) (s : List (Int × Int)) (A'' : Option Addr) (c'' : Nat) (ps : List (Int × Int × Int)) (w : World) (h : Wants w w.heap.size A b) (h' : Wants w w.heap.size A' s) (h'' : PairsW w w.heap.size A'' ps) (hz : A = none → c = 0) (hz' : A' = none → c' = 0)
    (hc : b.length ≤ c) (hp : ps.length ≤ 9223372036854775807) (hpw : ∀ p ∈ ps, (-9223372036854775808 ≤ p.1 ∧ p.1 ≤ 9223372036854775807) ∧ (-9223372036854775808 ≤ p.2.1 ∧ p.2.1 ≤ 9223372036854775807) ∧ -9223372036854775808 ≤ p.2.2 ∧ p.2.2 ≤ 9223372036854775807) :
    Calls Try.prog 5 #[.slice A b.length c, .slice A' s.length c', .slice A'' ps.length c''] w (ValPost (.bool true) w) := by
  have HW := hide h
  have HW' := hide h'
  have HPP := hide h''
  have HZ := hide hz
  have HZ' := hide hz'
  have HCC := hide hc
  have HPL := hide hp
  have HPW := hide hpw
  clear h h' h'' hz hz' hc hp hpw
  go_enter Try.func5, Try.ntmps5
  go_wp2_with fail
  refine (known_any w).mono ?_
  rintro e w0 ⟨rfl, hb0⟩
  have HB0 := hide hb0
  have HG := hide (gains_any A c b A' c' s w0 ((HW.out.below hb0).more hb0.size) ((HW'.out.below hb0).more hb0.size) HZ.out HZ'.out)
  clear hb0
  by_cases hk : checkI b s = 0
  case neg =>
    have hg : gainsA b s = (0, checkI b s) := by unfold gainsA; rw [if_neg hk]
    rw [hg] at HG
    have hk1 : (checkI b s != 0) = true := by simpa using hk
    have hk2 : (checkI b s == 0) = false := by simpa using hk
    generalize checkI b s = ck at *
    clear hg
    go_wp2_with fail
    refine HG.out.mono ?_
    rintro e w1 ⟨rfl, hb1⟩
    have HB1 := hide (HB0.out.trans (hb1.mono HB0.out.size))
    clear hb1
    go_wp2_with fail
    refine (num_any ck w1).mono ?_
    rintro e w2 ⟨rfl, hb2⟩
    have HB2 := hide (HB1.out.trans (hb2.mono HB1.out.size))
    clear hb2
    go_wp2_with fail
    refine (num_any ck w2).mono ?_
    rintro e w3 ⟨rfl, hb3⟩
    have HB3 := hide (HB2.out.trans (hb3.mono HB2.out.size))
    clear hb3
    go_wp2_with fail
    go_ret
    exact ⟨rfl, HB3.out⟩
  have hg : gainsA b s = (gainT (RunA b s).1, 0) := by unfold gainsA; rw [if_pos hk]
  have HOK := hide (ok_of_check hk)
  rw [hg] at HG
  obtain ⟨G, hG⟩ : ∃ G, G = gainT (RunA b s).1 := ⟨_, rfl⟩
  rw [← hG] at HG
  have HGG := hide hG
  clear hk hg hG
  go_wp2_with fail
  refine HG.out.mono ?_
  rintro e w1 ⟨rfl, hb1⟩
  have HB1 := hide (HB0.out.trans (hb1.mono HB0.out.size))
  clear hb1 HG HB0
  go_wp2_with fail
  refine (num_any 0 w1).mono ?_
  rintro e w2 ⟨rfl, hb2⟩
  have HB2 := hide (HB1.out.trans (hb2.mono HB1.out.size))
  clear hb2 HB1
  by_cases hb3 : 300 < (b.length : Int)
  · go_wp2_with fail
    refine (num_any 0 w2).mono ?_
    rintro e w3 ⟨rfl, hb3⟩
    have HB3 := hide (HB2.out.trans (hb3.mono HB2.out.size))
    clear hb3
    go_wp2_with fail
    go_ret
    exact ⟨rfl, HB3.out⟩
  by_cases hs3 : 300 < (s.length : Int)
  · go_wp2_with fail
    refine (num_any 0 w2).mono ?_
    rintro e w3 ⟨rfl, hb3⟩
    have HB3 := hide (HB2.out.trans (hb3.mono HB2.out.size))
    clear hb3
    go_wp2_with fail
    go_ret
    exact ⟨rfl, HB3.out⟩
  have HLB : Hid (b.length ≤ 300 ∧ s.length ≤ 300) := hide (by omega)
  go_upto_region 6 with fail
  clear hb3 hs3
  go_cut [9, 10] from 45 to 50 (fun v1 v2 wx => ∃ g1 g2, v1 = .slice (some ⟨g1, 0, none⟩) b.length b.length ∧ v2 = .slice (some ⟨g2, 0, none⟩) s.length s.length ∧ MsI w g1 g2 (List.replicate b.length 0) (List.replicate s.length 0) wx)
  case first =>
    have hmk1 := make_int b.length (by have := HOK.out.1.1; omega)
    have hmk2 := make_int s.length (by have := HOK.out.2.1; omega)
    have HBD : Hid (Below w.heap.size w w2.drew) := hide (HB2.out.drew)
    refine wp_region_U 9 (fun _ => True) rfl trivial (fun hHeld => ?_)
    generalize w2.drew = wd at *
    refine AnyU.take (i := 0) (v := ?v201) rfl (by kernel_rfl) (by kernel_rfl) (by kernel_rfl) (by kernel_rfl) (fun _ _ _ h => h) (Or.inl ⟨by rfl, ?hy201⟩) hHeld ?r201
    case hy201 => (intro w hSw; (try dsimp only at hSw); go_simp <;> with_reducible rfl)
    simp only [Act.put, List.setIfInBounds_toArray, List.set_cons_zero, List.set_cons_succ]
    refine AnyU.take (i := 1) (v := ?v202) rfl (by kernel_rfl) (by kernel_rfl) (by kernel_rfl) (by kernel_rfl) (fun _ _ _ h => h) (Or.inl ⟨by rfl, ?hy202⟩) hHeld ?r202
    case hy202 => (intro w hSw; (try dsimp only at hSw); go_simp <;> with_reducible rfl)
    simp only [Act.put, List.setIfInBounds_toArray, List.set_cons_zero, List.set_cons_succ]
    refine AnyU.take (i := 3) (v := ?v203) rfl (by kernel_rfl) (by kernel_rfl) (by kernel_rfl) (by kernel_rfl) (fun _ _ _ h => h) (Or.inl ⟨by rfl, ?hy203⟩) hHeld ?r203
    case hy203 => (intro w hSw; (try dsimp only at hSw); go_simp <;> with_reducible rfl)
    simp only [Act.put, List.setIfInBounds_toArray, List.set_cons_zero, List.set_cons_succ]
    refine AnyU.take (i := 4) (v := ?v204) rfl (by kernel_rfl) (by kernel_rfl) (by kernel_rfl) (by kernel_rfl) (fun _ _ _ h => h) (Or.inl ⟨by rfl, ?hy204⟩) hHeld ?r204
    case hy204 => (intro w hSw; (try dsimp only at hSw); go_simp <;> with_reducible rfl)
    simp only [Act.put, List.setIfInBounds_toArray, List.set_cons_zero, List.set_cons_succ]
    refine AnyU.next (js := [2, 5]) (by kernel_rfl) (by simp) (NextU.cons rfl (fun K hK => ?_) (NextU.cons rfl (fun K hK => ?_) (NextU.nil)))
    · go_simp
      refine hK.out _ _ (fun _ => trivial) (fun hHeld => ?_)
      replace hHeld := hHeld (by decide)
      try simp only [Act.put, List.setIfInBounds_toArray, List.set_cons_zero, List.set_cons_succ]
      refine AnyU.take (i := 6) (v := ?v205) rfl (by kernel_rfl) (by kernel_rfl) (by kernel_rfl) (by kernel_rfl) (fun _ _ _ h => h) (Or.inl ⟨by rfl, ?hy205⟩) hHeld ?r205
      case hy205 => (intro w hSw; (try dsimp only at hSw); go_simp <;> with_reducible rfl)
      simp only [Act.put, List.setIfInBounds_toArray, List.set_cons_zero, List.set_cons_succ]
      refine AnyU.next (js := [5]) (by kernel_rfl) (by simp) (NextU.cons rfl (fun K hK => ?_) NextU.nil)
      go_simp
      refine hK.out _ _ (fun _ => trivial) (fun hHeld => ?_)
      replace hHeld := hHeld (by decide)
      try simp only [Act.put, List.setIfInBounds_toArray, List.set_cons_zero, List.set_cons_succ]
      refine AnyU.take (i := 7) (v := ?v206) rfl (by kernel_rfl) (by kernel_rfl) (by kernel_rfl) (by kernel_rfl) (fun _ _ _ h => h) (Or.inl ⟨by rfl, ?hy206⟩) hHeld ?r206
      case hy206 => (intro w hSw; (try dsimp only at hSw); go_simp <;> with_reducible rfl)
      simp only [Act.put, List.setIfInBounds_toArray, List.set_cons_zero, List.set_cons_succ]
      refine AnyU.over (by kernel_rfl) ?_ _
      go_wp2_with fail
      go_meet
      obtain ⟨t0, t1, t2⟩ := two_boxes wd (.cells (rowI (List.replicate b.length 0)) 3) (.cells (rowI (List.replicate s.length 0)) 3)
      exact ⟨wd.heap.size, wd.heap.size + 1, rfl, rfl, ⟨HBD.out.trans (t2.mono HBD.out.size), by omega, by have := HBD.out.size; omega, t0, t1⟩⟩
    · go_simp
      refine hK.out _ _ (fun _ => trivial) (fun hHeld => ?_)
      replace hHeld := hHeld (by decide)
      try simp only [Act.put, List.setIfInBounds_toArray, List.set_cons_zero, List.set_cons_succ]
      refine AnyU.next (js := [2]) (by kernel_rfl) (by simp) (NextU.cons rfl (fun K hK => ?_) NextU.nil)
      go_simp
      refine hK.out _ _ (fun _ => trivial) (fun hHeld => ?_)
      replace hHeld := hHeld (by decide)
      try simp only [Act.put, List.setIfInBounds_toArray, List.set_cons_zero, List.set_cons_succ]
      refine AnyU.take (i := 6) (v := ?v207) rfl (by kernel_rfl) (by kernel_rfl) (by kernel_rfl) (by kernel_rfl) (fun _ _ _ h => h) (Or.inl ⟨by rfl, ?hy207⟩) hHeld ?r207
      case hy207 => (intro w hSw; (try dsimp only at hSw); go_simp <;> with_reducible rfl)
      simp only [Act.put, List.setIfInBounds_toArray, List.set_cons_zero, List.set_cons_succ]
      refine AnyU.take (i := 7) (v := ?v208) rfl (by kernel_rfl) (by kernel_rfl) (by kernel_rfl) (by kernel_rfl) (fun _ _ _ h => h) (Or.inl ⟨by rfl, ?hy208⟩) hHeld ?r208
      case hy208 => (intro w hSw; (try dsimp only at hSw); go_simp <;> with_reducible rfl)
      simp only [Act.put, List.setIfInBounds_toArray, List.set_cons_zero, List.set_cons_succ]
      refine AnyU.over (by kernel_rfl) ?_ _
      go_wp2_with fail
      go_meet
      obtain ⟨t0, t1, t2⟩ := two_boxes wd (.cells (rowI (List.replicate s.length 0)) 3) (.cells (rowI (List.replicate b.length 0)) 3)
      exact ⟨wd.heap.size + 1, wd.heap.size, rfl, rfl, ⟨HBD.out.trans (t2.mono HBD.out.size), by omega, by have := HBD.out.size; omega, t1, t0⟩⟩
  case rest =>
    obtain ⟨g1, g2, rfl, rfl, hmi⟩ := hcut
    have HM0 := hide hmi
    clear hmi HB2
    go_wp2_with fail
    go_loopw [11, 12] (fun sv iv wr => ∃ (k : Nat) (ub us : List Int) (z : Int), k ≤ ps.length ∧ sv = .int .i64 z ∧ iv = .int .i64 k ∧ UseP b s ub us z ∧ MsI w g1 g2 ub us wr) (fun _ iv _ => ps.length - (intOf iv).toNat)
    case atStart => exact ⟨0, _, _, 0, Nat.zero_le _, rfl, rfl, use_start b s HOK.out.1 HOK.out.2, HM0.out⟩
    case round =>
      obtain ⟨k, ub, us, z, hk, rfl, rfl, hu, hm⟩ := hrel
      have HU := hide hu
      clear HM0
      by_cases hlt : k < ps.length
      · obtain ⟨pb, po, rfl, hpb, hpc⟩ := PairsW.at_ HPP.out (by omega)
        obtain ⟨⟨x, y, n⟩, hxy⟩ : ∃ p, ps[k]? = some p := ⟨ps[k], List.getElem?_eq_getElem hlt⟩
        obtain ⟨q0, q1, q2⟩ := hpc k _ hxy
        have HXY := hide (HPW.out _ (List.mem_of_getElem? hxy))
        have d0 := (hm.bel.cell (p := ⟨pb, po + k * 3, none⟩) hpb).trans q0
        have d1 := (hm.bel.cell (p := ⟨pb, po + k * 3 + 1, none⟩) hpb).trans q1
        have d2 := (hm.bel.cell (p := ⟨pb, po + k * 3 + 2, none⟩) hpb).trans q2
        have hal : Below wr.heap.size wr (wr.alloc (.cells #[.int .i64 x, .int .i64 y, .int .i64 n] 58)) := (Below.refl _ _).alloc (Nat.le_refl _) _
        have HM1 := hide (hm.below hal)
        have HR1 : Hid ((wr.alloc (.cells #[.int .i64 x, .int .i64 y, .int .i64 n] 58)).heap[wr.heap.size]? = some (.cells #[.int .i64 x, .int .i64 y, .int .i64 n] 58 (0, 0))) := hide (heap_alloc_new wr _)
        have HRN : Hid (g1 ≠ wr.heap.size ∧ g2 ≠ wr.heap.size) := hide ⟨by have := lt_of_block hm.b; omega, by have := lt_of_block hm.s; omega⟩
        have hki : (k : Int) < (ps.length : Int) := by omega
        have hk1 : wrap64 ((k : Int) + 1) = ((k + 1 : Nat) : Int) := by have := HPL.out; unfold wrap64; omega
        clear hu hm hpc hxy q0 q1 q2 hal hpb
        go_upto_region 12 with fail
        obtain ⟨r, hr⟩ : ∃ r, r = wr.heap.size := ⟨_, rfl⟩
        generalize wr.alloc (.cells #[.int .i64 x, .int .i64 y, .int .i64 n] 58) = w3 at *
        rw [← hr] at HR1 HRN ⊢
        clear d0 d1 d2 hr hki
        have d0 := cell_of_row w3 r 0 _ _ (0, 0) HR1.out
        have d1 := cell_of_row w3 r 1 _ _ (0, 0) HR1.out
        have d2 := cell_of_row w3 r 2 _ _ (0, 0) HR1.out
        simp only [List.getElem?_toArray, List.getElem?_cons_zero, List.getElem?_cons_succ] at d0 d1 d2
        by_cases hx0 : x < 0
        · go_wp2_with fail
          go_roundw
          case rel => exact ⟨k + 1, ub, us, z, by omega, rfl, congrArg (Value.int .i64) hk1, HU.out, HM1.out⟩
          case measure => exact meas_i hlt hk1
        by_cases hx1 : (b.length : Int) ≤ x
        · go_wp2_with fail
          go_roundw
          case rel => exact ⟨k + 1, ub, us, z, by omega, rfl, congrArg (Value.int .i64) hk1, HU.out, HM1.out⟩
          case measure => exact meas_i hlt hk1
        by_cases hy0 : y < 0
        · go_wp2_with fail
          go_roundw
          case rel => exact ⟨k + 1, ub, us, z, by omega, rfl, congrArg (Value.int .i64) hk1, HU.out, HM1.out⟩
          case measure => exact meas_i hlt hk1
        by_cases hy1 : (s.length : Int) ≤ y
        · go_wp2_with fail
          go_roundw
          case rel => exact ⟨k + 1, ub, us, z, by omega, rfl, congrArg (Value.int .i64) hk1, HU.out, HM1.out⟩
          case measure => exact meas_i hlt hk1
        obtain ⟨i, rfl⟩ := Int.eq_ofNat_of_zero_le (Int.not_lt.1 hx0)
        obtain ⟨j, rfl⟩ := Int.eq_ofNat_of_zero_le (Int.not_lt.1 hy0)
        obtain ⟨⟨bc, bn⟩, hbi⟩ : ∃ t, b[i]? = some t := ⟨b[i]'(by omega), List.getElem?_eq_getElem _⟩
        obtain ⟨⟨sc, sn⟩, hsj⟩ : ∃ t, s[j]? = some t := ⟨s[j]'(by omega), List.getElem?_eq_getElem _⟩
        obtain ⟨u, hu⟩ : ∃ u, ub[i]? = some u := ⟨ub[i]'(by have := HU.out.lenB; omega), List.getElem?_eq_getElem _⟩
        obtain ⟨v, hv⟩ : ∃ v, us[j]? = some v := ⟨us[j]'(by have := HU.out.lenS; omega), List.getElem?_eq_getElem _⟩
        have hur := HU.out.buy i _ u hbi hu
        have hvr := HU.out.sell j _ v hsj hv
        have hbr := HOK.out.1.2 _ (List.mem_of_getElem? hbi)
        have hsr := HOK.out.2.2 _ (List.mem_of_getElem? hsj)
        simp only at hur hvr hbr hsr
        obtain ⟨bb, bo, rfl, hbb, hcb⟩ := Wants.at_ HW.out (by omega)
        obtain ⟨sb, so, rfl, hsb, hcs⟩ := Wants.at_ HW'.out (by omega)
        have HBB := hide hbb
        have HSB := hide hsb
        have HE0 := hide (hcb i _ hbi).1
        have HE1 := hide (hcb i _ hbi).2
        have HF0 := hide (hcs j _ hsj).1
        have HF1 := hide (hcs j _ hsj).2
        have hw1 : IntKind.i64.wrap (bn - u) = bn - u := Go.IntWalk.i64_in _ (by omega)
        have hw2 : IntKind.i64.wrap (sn - v) = sn - v := Go.IntWalk.i64_in _ (by omega)
        have hib : (i : Int) < (b.length : Int) := by omega
        have hjs : (j : Int) < (s.length : Int) := by omega
        have hin : i < b.length := by omega
        have hjn : j < s.length := by omega
        have HBI := hide hbi
        have HSJ := hide hsj
        have HUI := hide hu
        have HVJ := hide hv
        have HNM := hide (And.intro hur (And.intro hvr (And.intro hbr hsr)))
        clear hbi hsj hu hv hur hvr hbr hsr hbb hcb hsb hcs
        have e0 := (HM1.out.bel.cell (p := ⟨bb, bo + i * 2, none⟩) HBB.out).trans HE0.out
        have e1 := (HM1.out.bel.cell (p := ⟨bb, bo + i * 2 + 1, none⟩) HBB.out).trans HE1.out
        have f0 := (HM1.out.bel.cell (p := ⟨sb, so + j * 2, none⟩) HSB.out).trans HF0.out
        have f1 := (HM1.out.bel.cell (p := ⟨sb, so + j * 2 + 1, none⟩) HSB.out).trans HF1.out
        simp only at e0 e1 f0 f1
        have m0 := row_at HM1.out.b HUI.out
        have m1 := row_at HM1.out.s HVJ.out
        go_upto_region 13 with fail
        go_cut [14] from 83 to 109 (fun nv wx => ∃ N : Int, nv = .int .i64 N ∧ (N ≤ n ∧ N ≤ bn - u ∧ N ≤ sn - v) ∧ ∃ m, wx = w3.drewN m)
        case first =>
          go_quiet (fail)
          go_wp2_with fail
          all_goals (
            go_meet
            exact ⟨_, rfl, ⟨by omega, by omega, by omega⟩, _, rfl⟩)
        case rest =>
        obtain ⟨N, rfl, ⟨n1, n2, n3⟩, m, rfl⟩ := hcut
        clear d0 d1 d2 e0 e1 f0 f1 m0 m1 hw1 hw2
        have HM4 := hide (HM1.out.below (below_drewN (Below.refl _ _) m))
        have HR4 : Hid ((w3.drewN m).heap[r]? = some (.cells #[.int .i64 (i : Int), .int .i64 (j : Int), .int .i64 n] 58 (0, 0))) := hide HR1.out
        generalize w3.drewN m = w4 at *
        clear HM1 HR1
        have HNN := hide (And.intro n2 n3)
        by_cases hn1 : N < 1
        · clear n1 n2 n3
          go_wp2_with fail
          go_roundw
          case rel => exact ⟨k + 1, ub, us, z, by omega, rfl, congrArg (Value.int .i64) hk1, HU.out, HM4.out⟩
          case measure => exact meas_i hlt hk1
        obtain ⟨⟨u0, u1⟩, ⟨v0, v1⟩, ⟨b1, b2, b3, b4⟩, ⟨s1, s2, s3, s4⟩⟩ := HNM.out
        obtain ⟨d, hd⟩ : ∃ d, d = bc - sc := ⟨_, rfl⟩
        obtain ⟨e, he⟩ : ∃ e, e = N * d := ⟨_, rfl⟩
        have heb : -70368744177664 ≤ e ∧ e ≤ 70368744177664 := by
          rw [he]
          have h1 : N * d ≤ N * 1099511627776 := Int.mul_le_mul_of_nonneg_left (by omega) (by omega)
          have h2 : N * (-1099511627776) ≤ N * d := Int.mul_le_mul_of_nonneg_left (by omega) (by omega)
          omega
        have hzb := HU.out.bound HOK.out.1 HOK.out.2
        have hlb := HLB.out
        have hw3 : IntKind.i64.wrap (u + N) = u + N := Go.IntWalk.i64_in _ (by omega)
        have hw4 : IntKind.i64.wrap (v + N) = v + N := Go.IntWalk.i64_in _ (by omega)
        have hw5 : IntKind.i64.wrap (bc - sc) = d := by rw [hd]; exact Go.IntWalk.i64_in _ (by omega)
        have hw6 : IntKind.i64.wrap (N * d) = e := by rw [← he]; exact Go.IntWalk.i64_in _ (by omega)
        have hw7 : IntKind.i64.wrap (z + e) = z + e := Go.IntWalk.i64_in _ (by omega)
        have HST := hide (HU.out.step HBI.out HSJ.out HUI.out HVJ.out (n := N) (by omega) (by simp only; omega) (by simp only; omega))
        simp only [← hd, ← he] at HST
        clear u0 u1 v0 v1 b1 b2 b3 b4 s1 s2 s3 s4 hd he heb hzb hlb n1 n2 n3 HNN
        have d0 := cell_of_row w4 r 0 _ _ (0, 0) HR4.out
        have d1 := cell_of_row w4 r 1 _ _ (0, 0) HR4.out
        have d2 := cell_of_row w4 r 2 _ _ (0, 0) HR4.out
        simp only [List.getElem?_toArray, List.getElem?_cons_zero, List.getElem?_cons_succ] at d0 d1 d2
        have m0 := row_at HM4.out.b HUI.out
        have m2 := frozen_of_row w4 g1 i _ _ HM4.out.b
        go_upto_region 15 with fail
        refine wp_region_U 11 (fun X => X = w4.drew) rfl rfl (fun hHeld => ?_)
        refine AnyU.take (i := 0) (v := ?v401) rfl (by kernel_rfl) (by kernel_rfl) (by kernel_rfl) (by kernel_rfl) (fun _ _ _ h => h) (Or.inl ⟨by rfl, ?hy401⟩) hHeld ?r401
        case hy401 => (intro w hSw; (try dsimp only at hSw); subst hSw; go_simp <;> with_reducible rfl)
        simp only [Act.put, List.setIfInBounds_toArray, List.set_cons_zero, List.set_cons_succ]
        refine AnyU.take (i := 1) (v := ?v402) rfl (by kernel_rfl) (by kernel_rfl) (by kernel_rfl) (by kernel_rfl) (fun _ _ _ h => h) (Or.inl ⟨by rfl, ?hy402⟩) hHeld ?r402
        case hy402 => (intro w hSw; (try dsimp only at hSw); subst hSw; go_simp <;> with_reducible rfl)
        simp only [Act.put, List.setIfInBounds_toArray, List.set_cons_zero, List.set_cons_succ]
        refine AnyU.take (i := 2) (v := ?v403) rfl (by kernel_rfl) (by kernel_rfl) (by kernel_rfl) (by kernel_rfl) (fun _ _ _ h => h) (Or.inl ⟨by rfl, ?hy403⟩) hHeld ?r403
        case hy403 => (intro w hSw; (try dsimp only at hSw); subst hSw; go_simp <;> with_reducible rfl)
        simp only [Act.put, List.setIfInBounds_toArray, List.set_cons_zero, List.set_cons_succ]
        refine AnyU.take (i := 3) (v := ?v404) rfl (by kernel_rfl) (by kernel_rfl) (by kernel_rfl) (by kernel_rfl) (fun _ _ _ h => h) (Or.inl ⟨by rfl, ?hy404⟩) hHeld ?r404
        case hy404 => (intro w hSw; (try dsimp only at hSw); subst hSw; go_simp <;> with_reducible rfl)
        simp only [Act.put, List.setIfInBounds_toArray, List.set_cons_zero, List.set_cons_succ]
        refine AnyU.take (i := 4) (v := ?v405) rfl (by kernel_rfl) (by kernel_rfl) (by kernel_rfl) (by kernel_rfl) (fun _ _ _ h => h) (Or.inl ⟨by rfl, ?hy405⟩) hHeld ?r405
        case hy405 => (intro w hSw; (try dsimp only at hSw); subst hSw; go_simp <;> with_reducible rfl)
        simp only [Act.put, List.setIfInBounds_toArray, List.set_cons_zero, List.set_cons_succ]
        refine AnyU.take (i := 5) (v := ?v406) rfl (by kernel_rfl) (by kernel_rfl) (by kernel_rfl) (by kernel_rfl) (fun _ _ _ h => h) (Or.inl ⟨by rfl, ?hy406⟩) hHeld ?r406
        case hy406 => (intro w hSw; (try dsimp only at hSw); subst hSw; go_simp <;> with_reducible rfl)
        simp only [Act.put, List.setIfInBounds_toArray, List.set_cons_zero, List.set_cons_succ]
        refine AnyU.take (i := 6) (v := ?v407) rfl (by kernel_rfl) (by kernel_rfl) (by kernel_rfl) (by kernel_rfl) (fun _ _ _ h => h) (Or.inl ⟨by rfl, ?hy407⟩) hHeld ?r407
        case hy407 => (intro w hSw; (try dsimp only at hSw); subst hSw; go_simp <;> with_reducible rfl)
        simp only [Act.put, List.setIfInBounds_toArray, List.set_cons_zero, List.set_cons_succ]
        refine AnyU.take (i := 7) (v := ?v408) rfl (by kernel_rfl) (by kernel_rfl) (by kernel_rfl) (by kernel_rfl) (fun _ _ _ h => h) (Or.inl ⟨by rfl, ?hy408⟩) hHeld ?r408
        case hy408 => (intro w hSw; (try dsimp only at hSw); subst hSw; go_simp <;> with_reducible rfl)
        simp only [Act.put, List.setIfInBounds_toArray, List.set_cons_zero, List.set_cons_succ]
        refine AnyU.take (i := 8) (v := ?v409) rfl (by kernel_rfl) (by kernel_rfl) (by kernel_rfl) (by kernel_rfl) (fun _ _ _ h => h) (Or.inl ⟨by rfl, ?hy409⟩) hHeld ?r409
        case hy409 => (intro w hSw; (try dsimp only at hSw); subst hSw; go_simp <;> with_reducible rfl)
        simp only [Act.put, List.setIfInBounds_toArray, List.set_cons_zero, List.set_cons_succ]
        refine AnyU.take (i := 9) (v := ?v410) rfl (by kernel_rfl) (by kernel_rfl) (by kernel_rfl) (by kernel_rfl) (fun _ _ _ h => h) (Or.inl ⟨by rfl, ?hy410⟩) hHeld ?r410
        case hy410 => (intro w hSw; (try dsimp only at hSw); subst hSw; go_simp <;> with_reducible rfl)
        simp only [Act.put, List.setIfInBounds_toArray, List.set_cons_zero, List.set_cons_succ]
        refine AnyU.take (i := 10) (v := ?v411) rfl (by kernel_rfl) (by kernel_rfl) (by kernel_rfl) (by kernel_rfl) (fun _ _ _ h => h) (Or.inl ⟨by rfl, ?hy411⟩) hHeld ?r411
        case hy411 => (intro w hSw; (try dsimp only at hSw); subst hSw; go_simp <;> with_reducible rfl)
        simp only [Act.put, List.setIfInBounds_toArray, List.set_cons_zero, List.set_cons_succ]
        refine AnyU.next (js := [11]) (by kernel_rfl) (by simp) (NextU.cons rfl (fun K hK => ?_) NextU.nil)
        clear hHeld
        go_simp
        refine hK.out _ _ (fun h => absurd h (by decide)) (fun _ => ?_)
        try simp only [Act.put, List.setIfInBounds_toArray, List.set_cons_zero, List.set_cons_succ]
        refine AnyU.over (by kernel_rfl) ?_ _
        have HM5 : Hid (MsI w g1 g2 (addAt ub i N) us (w4.setCell ⟨g1, i, none⟩ (.int .i64 (u + N))).drew) := hide ((HM4.out.setb (n := N) HUI.out).below (below_drewN (Below.refl _ _) 1))
        have HR5 : Hid ((w4.setCell ⟨g1, i, none⟩ (.int .i64 (u + N))).drew.heap[r]? = some (.cells #[.int .i64 (i : Int), .int .i64 (j : Int), .int .i64 n] 58 (0, 0))) := hide ((Below.heap_setCell w4 _ _ _ (fun h => HRN.out.1 h.symm)).trans HR4.out)
        clear m0 m2 d0 d1 d2 HM4 HR4
        generalize (w4.setCell ⟨g1, i, none⟩ (.int .i64 (u + N))).drew = w5 at *
        have d0 := cell_of_row w5 r 0 _ _ (0, 0) HR5.out
        have d1 := cell_of_row w5 r 1 _ _ (0, 0) HR5.out
        simp only [List.getElem?_toArray, List.getElem?_cons_zero, List.getElem?_cons_succ] at d0 d1
        have m1 := row_at HM5.out.s HVJ.out
        have m3 := frozen_of_row w5 g2 j _ _ HM5.out.s
        go_upto_region 16 with fail
        refine wp_region_U 11 (fun X => X = w5.drew) rfl rfl (fun hHeld => ?_)
        refine AnyU.take (i := 0) (v := ?v501) rfl (by kernel_rfl) (by kernel_rfl) (by kernel_rfl) (by kernel_rfl) (fun _ _ _ h => h) (Or.inl ⟨by rfl, ?hy501⟩) hHeld ?r501
        case hy501 => (intro w hSw; (try dsimp only at hSw); subst hSw; go_simp <;> with_reducible rfl)
        simp only [Act.put, List.setIfInBounds_toArray, List.set_cons_zero, List.set_cons_succ]
        refine AnyU.take (i := 1) (v := ?v502) rfl (by kernel_rfl) (by kernel_rfl) (by kernel_rfl) (by kernel_rfl) (fun _ _ _ h => h) (Or.inl ⟨by rfl, ?hy502⟩) hHeld ?r502
        case hy502 => (intro w hSw; (try dsimp only at hSw); subst hSw; go_simp <;> with_reducible rfl)
        simp only [Act.put, List.setIfInBounds_toArray, List.set_cons_zero, List.set_cons_succ]
        refine AnyU.take (i := 2) (v := ?v503) rfl (by kernel_rfl) (by kernel_rfl) (by kernel_rfl) (by kernel_rfl) (fun _ _ _ h => h) (Or.inl ⟨by rfl, ?hy503⟩) hHeld ?r503
        case hy503 => (intro w hSw; (try dsimp only at hSw); subst hSw; go_simp <;> with_reducible rfl)
        simp only [Act.put, List.setIfInBounds_toArray, List.set_cons_zero, List.set_cons_succ]
        refine AnyU.take (i := 3) (v := ?v504) rfl (by kernel_rfl) (by kernel_rfl) (by kernel_rfl) (by kernel_rfl) (fun _ _ _ h => h) (Or.inl ⟨by rfl, ?hy504⟩) hHeld ?r504
        case hy504 => (intro w hSw; (try dsimp only at hSw); subst hSw; go_simp <;> with_reducible rfl)
        simp only [Act.put, List.setIfInBounds_toArray, List.set_cons_zero, List.set_cons_succ]
        refine AnyU.take (i := 4) (v := ?v505) rfl (by kernel_rfl) (by kernel_rfl) (by kernel_rfl) (by kernel_rfl) (fun _ _ _ h => h) (Or.inl ⟨by rfl, ?hy505⟩) hHeld ?r505
        case hy505 => (intro w hSw; (try dsimp only at hSw); subst hSw; go_simp <;> with_reducible rfl)
        simp only [Act.put, List.setIfInBounds_toArray, List.set_cons_zero, List.set_cons_succ]
        refine AnyU.take (i := 5) (v := ?v506) rfl (by kernel_rfl) (by kernel_rfl) (by kernel_rfl) (by kernel_rfl) (fun _ _ _ h => h) (Or.inl ⟨by rfl, ?hy506⟩) hHeld ?r506
        case hy506 => (intro w hSw; (try dsimp only at hSw); subst hSw; go_simp <;> with_reducible rfl)
        simp only [Act.put, List.setIfInBounds_toArray, List.set_cons_zero, List.set_cons_succ]
        refine AnyU.take (i := 6) (v := ?v507) rfl (by kernel_rfl) (by kernel_rfl) (by kernel_rfl) (by kernel_rfl) (fun _ _ _ h => h) (Or.inl ⟨by rfl, ?hy507⟩) hHeld ?r507
        case hy507 => (intro w hSw; (try dsimp only at hSw); subst hSw; go_simp <;> with_reducible rfl)
        simp only [Act.put, List.setIfInBounds_toArray, List.set_cons_zero, List.set_cons_succ]
        refine AnyU.take (i := 7) (v := ?v508) rfl (by kernel_rfl) (by kernel_rfl) (by kernel_rfl) (by kernel_rfl) (fun _ _ _ h => h) (Or.inl ⟨by rfl, ?hy508⟩) hHeld ?r508
        case hy508 => (intro w hSw; (try dsimp only at hSw); subst hSw; go_simp <;> with_reducible rfl)
        simp only [Act.put, List.setIfInBounds_toArray, List.set_cons_zero, List.set_cons_succ]
        refine AnyU.take (i := 8) (v := ?v509) rfl (by kernel_rfl) (by kernel_rfl) (by kernel_rfl) (by kernel_rfl) (fun _ _ _ h => h) (Or.inl ⟨by rfl, ?hy509⟩) hHeld ?r509
        case hy509 => (intro w hSw; (try dsimp only at hSw); subst hSw; go_simp <;> with_reducible rfl)
        simp only [Act.put, List.setIfInBounds_toArray, List.set_cons_zero, List.set_cons_succ]
        refine AnyU.take (i := 9) (v := ?v510) rfl (by kernel_rfl) (by kernel_rfl) (by kernel_rfl) (by kernel_rfl) (fun _ _ _ h => h) (Or.inl ⟨by rfl, ?hy510⟩) hHeld ?r510
        case hy510 => (intro w hSw; (try dsimp only at hSw); subst hSw; go_simp <;> with_reducible rfl)
        simp only [Act.put, List.setIfInBounds_toArray, List.set_cons_zero, List.set_cons_succ]
        refine AnyU.take (i := 10) (v := ?v511) rfl (by kernel_rfl) (by kernel_rfl) (by kernel_rfl) (by kernel_rfl) (fun _ _ _ h => h) (Or.inl ⟨by rfl, ?hy511⟩) hHeld ?r511
        case hy511 => (intro w hSw; (try dsimp only at hSw); subst hSw; go_simp <;> with_reducible rfl)
        simp only [Act.put, List.setIfInBounds_toArray, List.set_cons_zero, List.set_cons_succ]
        refine AnyU.next (js := [11]) (by kernel_rfl) (by simp) (NextU.cons rfl (fun K hK => ?_) NextU.nil)
        clear hHeld
        go_simp
        refine hK.out _ _ (fun h => absurd h (by decide)) (fun _ => ?_)
        try simp only [Act.put, List.setIfInBounds_toArray, List.set_cons_zero, List.set_cons_succ]
        refine AnyU.over (by kernel_rfl) ?_ _
        have HM6 : Hid (MsI w g1 g2 (addAt ub i N) (addAt us j N) (w5.setCell ⟨g2, j, none⟩ (.int .i64 (v + N))).drew) := hide ((HM5.out.sets (n := N) HVJ.out).below (below_drewN (Below.refl _ _) 1))
        have HR6 : Hid ((w5.setCell ⟨g2, j, none⟩ (.int .i64 (v + N))).drew.heap[r]? = some (.cells #[.int .i64 (i : Int), .int .i64 (j : Int), .int .i64 n] 58 (0, 0))) := hide ((Below.heap_setCell w5 _ _ _ (fun h => HRN.out.2 h.symm)).trans HR5.out)
        clear m1 m3 d0 d1 HM5 HR5
        generalize (w5.setCell ⟨g2, j, none⟩ (.int .i64 (v + N))).drew = w6 at *
        have d0 := cell_of_row w6 r 0 _ _ (0, 0) HR6.out
        have d1 := cell_of_row w6 r 1 _ _ (0, 0) HR6.out
        simp only [List.getElem?_toArray, List.getElem?_cons_zero, List.getElem?_cons_succ] at d0 d1
        have e0 := (HM6.out.bel.cell (p := ⟨bb, bo + i * 2, none⟩) HBB.out).trans HE0.out
        have f0 := (HM6.out.bel.cell (p := ⟨sb, so + j * 2, none⟩) HSB.out).trans HF0.out
        simp only at e0 f0
        go_upto_region 17 with fail
        go_quiet (fail)
        go_wp2_with fail
        go_roundw
        case rel => exact ⟨k + 1, _, _, _, by omega, rfl, congrArg (Value.int .i64) hk1, HST.out, HM6.out.below (below_drewN (Below.refl _ _) _)⟩
        case measure => exact meas_i hlt hk1
      · obtain rfl : k = ps.length := by omega
        have hle : z ≤ G := by rw [HGG.out]; exact use_le HOK.out.1 HOK.out.2 hu
        have HBL := hide hm.bel
        have hkk : ¬ ((ps.length : Int) < (ps.length : Int)) := by omega
        clear hu hm
        by_cases hb0 : b = []
        · have hl0 : (b.length : Int) = 0 := by rw [hb0]; rfl
          clear hb0
          go_wp2_with fail
          go_ret
          exact ⟨rfl, HBL.out⟩
        have hpos : 0 < b.length := List.length_pos_iff.2 hb0
        obtain ⟨hok2, hll⟩ := less_le HOK.out.1 HOK.out.2 hb0
        obtain ⟨L, hL⟩ : ∃ L, L = gainT (RunA b.dropLast s).1 := ⟨_, rfl⟩
        rw [← hL, ← HGG.out] at hll
        have hg2 : gainsA b.dropLast s = (L, 0) := by rw [hL]; unfold gainsA; rw [if_pos (check_of_ok hok2 HOK.out.2)]
        have hdl : b.dropLast = b.take (b.length - 1) := List.dropLast_eq_take
        have hdn : (b.take (b.length - 1)).length = b.length - 1 := by rw [List.length_take]; omega
        have HG2 := gains_any A c b.dropLast A' c' s wr (by rw [hdl]; exact wants_take ((HW.out.below HBL.out).more HBL.out.size) _) ((HW'.out.below HBL.out).more HBL.out.size) HZ.out HZ'.out
        rw [hg2, hdl, hdn] at HG2
        have HGG2 := hide HG2
        obtain ⟨bb, bo, rfl, _, _⟩ := Wants.at_ HW.out hpos
        have hne : ((b.length : Int) == 0) = false := by simp only [beq_eq_false_iff_ne]; omega
        have hs1 : IntKind.i64.wrap ((b.length : Int) - 1) = ((b.length - 1 : Nat) : Int) := by
          have := HLB.out.1
          rw [Go.IntWalk.i64_in _ (by omega)]
          omega
        have hcap := HCC.out
        have hsl : b.length - 1 ≤ c := by omega
        clear hb0 hok2 hL hg2 hdl hdn HG2 hcap
        go_wp2_with fail
        refine (HGG2.out).mono ?_
        rintro e w7 ⟨rfl, hb7⟩
        have HB7 := hide (HBL.out.trans (hb7.mono HBL.out.size))
        clear hb7 HGG2
        go_wp2_with fail
        refine (num_any 0 w7).mono ?_
        rintro e w8 ⟨rfl, hb8⟩
        have HB8 := hide (HB7.out.trans (hb8.mono HB7.out.size))
        clear hb8
        go_wp2_with fail
        go_ret
        exact ⟨rfl, HB8.out⟩
end Go.Proofs.Ytogicdljbnllgaa
