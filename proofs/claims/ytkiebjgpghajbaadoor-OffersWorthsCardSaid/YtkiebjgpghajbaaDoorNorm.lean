/- The walks of offers.Normal and offers.Same. -/
import Derived.Test.YtkiebjgpghajbaaDoorSort
import Derived.Shelf.SlSortCmp.NoneTotal
namespace Go.Proofs.YtkiebjgpghajbaaDoor
open Go Go.Proofs Go.Shelf Go.RowKit Go.Maps
open Go.ChangeMaps Go.WideMaps

theorem sortNone_any (c : Nat) (w : World) : Calls Tryd.prog 55 #[.slice none 0 c, .func (.func 56) #[] #[]] w fun e w' => e = .returned (.tuple #[]) ∧ w' = w :=
  AnyF.slices_SortFunc_none sortLaid none c _ w
/-- The sort at whatever row of the call's own. -/
theorem sort_row {w : World} {base : Nat} {v : Value} {out : List Offer} (hown : w.ownsRow base 67 2 v out.length (cells2 offV out)) (hl : out.length ≤ 1000000) :
    Calls Tryd.prog 55 #[v, .func (.func 56) #[] #[]] w fun e w' => e = .returned (.tuple #[]) ∧
      ∃ d : List Offer, d.Perm out ∧ d.Pairwise (fun a b => a.1 ≤ b.1) ∧ w'.ownsRow base 67 2 v out.length (cells2 offV d) ∧ w.grownBy w' v.ownBlock := by
  have h2 := hown.2
  rcases h2 with ⟨rfl, h0⟩ | ⟨g, cap, cur, rfl, _⟩
  · obtain rfl := List.eq_nil_of_length_eq_zero h0
    refine (sortNone_any 0 w).mono ?_
    rintro e w' ⟨he, rfl⟩
    exact ⟨he, [], List.Perm.refl _, List.Pairwise.nil, World.ownsRow_nil _ _ _ _, World.grownBy.refl _ _⟩
  · exact sortO_any hown hl

set_option maxRecDepth 100000 in
set_option maxHeartbeats 4000000 in
theorem normal_any (A : Option Addr) (c : Nat) (l : List Offer) (w : World) (h : Offs w w.heap.size A l) (hl : l.length ≤ 1000000) (hw : OWide l) :
    Calls Tryd.prog 32 #[.slice A l.length c] w (ClonePost (normL l) w) := by
  have hat := Offs.at_ h
  have HA := hide h
  have HWD := hide hw
  have HLEN : Hid (∀ k, (keepTo l k).length ≤ l.length) := hide (fun k => Nat.le_trans (keepFrom_len _ _ _) (by simp; omega))
  have HS : Hid (∀ (v : Value) (W : World), W.ownsRow w.heap.size 67 2 v (keepL l).length (cells2 offV (keepL l)) → Calls Tryd.prog 55 #[v, .func (.func 56) #[] #[]] W fun e w' => e = .returned (.tuple #[]) ∧ w'.ownsRow w.heap.size 67 2 v (normL l).length (cells2 offV (normL l)) ∧ W.grownBy w' v.ownBlock) := hide (fun v W hown => (sort_row hown (Nat.le_trans (keepFrom_len _ _ _) hl)).mono (fun e w' ⟨he, d, hp, hs, ho, hg⟩ => by
    have e1 := norm_of hw hs hp
    subst e1
    rw [← hp.length_eq] at ho
    exact ⟨he, ho, hg⟩))
  have K1 : Hid (∀ (x y : Int), ∀ u ∈ [Value.int .u32 x, .int .i64 y], u.oneCell' = true) := hide (fun x y u hu => by simp at hu; rcases hu with rfl | rfl <;> rfl)
  clear h hw
  go_enter Tryd.func32, Tryd.ntmps32
  go_wp2_with fail
  go_loopw [3, 8] (fun uv iv wr => ∃ (k : Nat) (vv : Value), k ≤ l.length ∧ iv = .int .i64 k ∧ vv = uv ∧ wr.ownsRow w.heap.size 67 2 vv (keepTo l k).length (cells2 offV (keepTo l k)) ∧ Below w.heap.size w wr) (fun _ iv _ => l.length - (intOf iv).toNat)
  case atStart => exact ⟨0, _, Nat.zero_le _, rfl, rfl, World.ownsRow_nil _ _ _ _, Below.refl _ _⟩
  case round =>
    obtain ⟨k, vv, hk, rfl, rfl, hown, hb⟩ := hrel
    have HO := hide hown
    have HB := hide hb
    clear hown hb
    by_cases hlt : k < l.length
    · obtain ⟨b, o, rfl, hbB, hcc⟩ := hat (by omega)
      obtain ⟨x, hx⟩ : ∃ x, l[k]? = some x := ⟨l[k], List.getElem?_eq_getElem hlt⟩
      obtain ⟨hc0, hc1⟩ := hcc k x hx
      have d0 := (HB.out.cell (p := ⟨b, o + k * 2, none⟩) hbB).trans hc0
      have d1 := (HB.out.cell (p := ⟨b, o + k * 2 + 1, none⟩) hbB).trans hc1
      have HSU := hide (keepTo_succ hx)
      have HID := hide (idle_at hx)
      have hki : (k : Int) < (l.length : Int) := by omega
      have HB2 : Hid (Below w.heap.size w (wr.alloc (.cells #[.int .u32 (x.1 : Int), .int .i64 x.2] 67))) := hide (HB.out.alloc HB.out.size _)
      have HO2 : Hid ((wr.alloc (.cells #[.int .u32 (x.1 : Int), .int .i64 x.2] 67)).ownsRow w.heap.size 67 2 vv (keepTo l k).length (cells2 offV (keepTo l k))) := hide (own_below HO.out ((Below.refl _ _).alloc (Nat.le_refl _) _) (Nat.le_refl _))
      have HX2 : Hid ((wr.alloc (.cells #[.int .u32 (x.1 : Int), .int .i64 x.2] 67)).heap[wr.heap.size]? = some (.cells #[.int .u32 (x.1 : Int), .int .i64 x.2] 67 (0, 0))) := hide (heap_alloc_new wr _)
      have HCL := hide (idle_any (some ⟨b, o, none⟩) c l (k : Int) _ (HA.out.up HB2.out) hl HWD.out)
      rw [HID.out] at HCL
      have HKO : Hid (keepO l k x = (decide (1 ≤ x.2) && !idleN l k x)) := hide rfl
      have HLK := HLEN.out k
      clear hc0 hc1 hcc hat hx
      obtain ⟨xg, xc⟩ := x
      simp only at d0 d1 HCL HB2 HO2 HX2 HKO
      generalize idleN l k (xg, xc) = q at *
      by_cases h1 : (1 : Int) ≤ xc
      · cases q
        · have HN : Hid (keepTo l (k + 1) = keepTo l k ++ [(xg, xc)]) := hide (by rw [HSU.out, HKO.out]; simp [h1])
          go_upto_region 5 with fail
          generalize wr.alloc (.cells #[.int .u32 (xg : Int), .int .i64 xc] 67) = w2 at *
          have y0 : w2.cell? ⟨wr.heap.size, 0, none⟩ = some (.int .u32 (xg : Int)) := cell_of_row w2 wr.heap.size 0 _ _ (0, 0) HX2.out
          have y1 : w2.cell? ⟨wr.heap.size, 1, none⟩ = some (.int .i64 xc) := cell_of_row w2 wr.heap.size 1 _ _ (0, 0) HX2.out
          go_wp2_with fail
          refine (HCL.out).mono ?_
          rintro e w3 ⟨rfl, hb3⟩
          have HB3 : Hid (Below w.heap.size w w3) := hide (HB2.out.trans (hb3.mono HB2.out.size))
          have HO3 : Hid (w3.ownsRow w.heap.size 67 2 vv (keepTo l k).length (cells2 offV (keepTo l k))) := hide (own_below HO2.out hb3 (Nat.le_refl _))
          have hx3 := (hb3.block _ (lt_of_block HX2.out)).trans HX2.out
          clear y0 y1 hb3
          have y0 : w3.cell? ⟨wr.heap.size, 0, none⟩ = some (.int .u32 (xg : Int)) := cell_of_row w3 wr.heap.size 0 _ _ (0, 0) hx3
          have y1 : w3.cell? ⟨wr.heap.size, 1, none⟩ = some (.int .i64 xc) := cell_of_row w3 wr.heap.size 1 _ _ (0, 0) hx3
          have K2 : Hid ((keepTo l k).length + 1 ≤ maxLen) := hide (by unfold maxLen; omega)
          have K3 : Hid (((keepTo l k).length + 1) * 16 ≤ 140737488355328) := hide (by omega)
          have K4 : Hid (w.heap.size ≤ w3.heap.size) := hide HB3.out.size
          clear hx3
          go_wp2_with (at_builtin; refine wpList_app rfl (.tmp 22) (.tmp 24) 22 rfl w.heap.size (.agg #[.int .u32 0, .int .i64 0]) 2 16 infoO Tryd.underlying22 rfl (by decide) _ _ _ rfl HO3.out 1 1 rfl rfl (K1.out _ _) K2.out K3.out K4.out ?_; intro v4 w4 hown4 hg4 hlt4 _; have HO4 := hide hown4; have HB4 : Hid (Below w.heap.size w w4) := hide (HB3.out.grown hg4 HB3.out.size (fun j hj => (HO3.out.lt j hj).1)); clear hown4 hg4 hlt4)
          go_roundw
          case rel =>
            refine ⟨k + 1, v4, by omega, by go_num, rfl, ?_, HB4.out⟩
            rw [HN.out, List.length_append, List.length_singleton, cells2_append]
            exact HO4.out
          case measure => simp [intOf]; omega
        · have HN : Hid (keepTo l (k + 1) = keepTo l k) := hide (by rw [HSU.out, HKO.out]; simp)
          go_upto_region 5 with fail
          generalize wr.alloc (.cells #[.int .u32 (xg : Int), .int .i64 xc] 67) = w2 at *
          have y0 : w2.cell? ⟨wr.heap.size, 0, none⟩ = some (.int .u32 (xg : Int)) := cell_of_row w2 wr.heap.size 0 _ _ (0, 0) HX2.out
          have y1 : w2.cell? ⟨wr.heap.size, 1, none⟩ = some (.int .i64 xc) := cell_of_row w2 wr.heap.size 1 _ _ (0, 0) HX2.out
          go_wp2_with fail
          refine (HCL.out).mono ?_
          rintro e w3 ⟨rfl, hb3⟩
          have HB3 : Hid (Below w.heap.size w w3) := hide (HB2.out.trans (hb3.mono HB2.out.size))
          have HO3 : Hid (w3.ownsRow w.heap.size 67 2 vv (keepTo l k).length (cells2 offV (keepTo l k))) := hide (own_below HO2.out hb3 (Nat.le_refl _))
          clear y0 y1 hb3
          go_wp2_with fail
          go_roundw
          case rel =>
            refine ⟨k + 1, vv, by omega, by go_num, rfl, ?_, HB3.out⟩
            rw [HN.out]
            exact HO3.out
          case measure => simp [intOf]; omega
      · have HN : Hid (keepTo l (k + 1) = keepTo l k) := hide (by rw [HSU.out, HKO.out]; simp [h1])
        have d1' : decide ((1 : Int) ≤ xc) = false := decide_eq_false h1
        go_wp2_with fail
        go_roundw
        case rel =>
          refine ⟨k + 1, vv, by omega, by go_num, rfl, ?_, HB2.out⟩
          rw [HN.out]
          exact HO2.out
        case measure => simp [intOf]; omega
    · obtain rfl : k = l.length := by omega
      have HO2 := HO.out
      rw [keepTo_all] at HO2
      have HSC := hide (HS.out vv wr HO2)
      have HO3 := hide HO2
      clear HO2
      go_wp2_with fail
      refine (HSC.out).mono ?_
      rintro e w2 ⟨rfl, hown2, hg2⟩
      obtain ⟨A2, c2, rfl, _⟩ := own_sh hown2
      have HO4 := hide hown2
      have HB2 : Hid (Below w.heap.size w w2) := hide (HB.out.grown hg2 HB.out.size (fun j hj => (HO3.out.lt j hj).1))
      clear hown2 hg2
      go_wp2_with fail
      go_ret
      exact ⟨A2, c2, rfl, HO4.out, HB2.out⟩

set_option maxRecDepth 100000 in
set_option maxHeartbeats 2000000 in
theorem same8_any (A : Option Addr) (c : Nat) (a : List Offer) (A' : Option Addr) (c' : Nat) (b : List Offer) (w : World) (h : Offs w w.heap.size A a) (h' : Offs w w.heap.size A' b) (hla : a.length ≤ 1000000) (hlb : b.length ≤ 1000000) (hwa : OWide a) (hwb : OWide b) :
    Calls Tryd.prog 37 #[.slice A a.length c, .slice A' b.length c'] w (ValPost (.bool (decide (normL a = normL b))) w) := by
  have H1 := hide (normal_any A c a w h hla hwa)
  have H2 : Hid (∀ W, Below w.heap.size w W → Calls Tryd.prog 32 #[.slice A' b.length c'] W (ClonePost (normL b) W)) := hide (fun W hW => normal_any A' c' b W (h'.up hW) hlb hwb)
  have HL : Hid ((normL a).length ≤ 1000000) := hide (Nat.le_trans (norm_len a hwa) hla)
  clear h h' hla hlb hwa hwb
  generalize normL a = na at *
  generalize normL b = nb at *
  go_enter Tryd.func37, Tryd.ntmps37
  go_wp2_with fail
  refine (H1.out).mono ?_
  rintro e w1 ⟨A1, c1, rfl, hown1, hb1⟩
  have HO1 := hide hown1
  have HB1 := hide hb1
  clear hown1 hb1
  go_wp2_with fail
  refine (H2.out w1 HB1.out).mono ?_
  rintro e w2 ⟨A2, c2, rfl, hown2, hb2⟩
  have HE := hide (equalO_any A1 c1 na A2 c2 nb w2 ((Two.of_own HO1.out rfl).up hb2) (Two.of_own hown2 rfl) HL.out)
  have HB2 : Hid (Below w.heap.size w w2) := hide (HB1.out.trans (hb2.mono HB1.out.size))
  clear hown2 hb2
  go_wp2_with fail
  refine (HE.out).mono ?_
  rintro e w3 ⟨rfl, hb3⟩
  have HB3 : Hid (Below w.heap.size w w3) := hide (HB2.out.trans (hb3.mono HB2.out.size))
  clear hb3
  go_wp2_with fail
  go_ret
  exact ⟨rfl, HB3.out⟩
end Go.Proofs.YtkiebjgpghajbaaDoor
