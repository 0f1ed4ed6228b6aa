/- The walk of the law OffersChoices. (Printed by gen_choices8.py.) -/
import Derived.Test.YtkiebjgpghajbaaDoorLawTell
import Derived.Test.YtkiebjgpghajbaaDoorStays
import Derived.Test.YtkiebjgpghajbaaDoorSpoilt
namespace Go.Proofs.YtkiebjgpghajbaaDoor
open Go.RowKit Go.Maps
open Go.ChangeMaps Go.WideMaps

/-- A row of numbers with a mark behind, in a later world. -/
structure OwnZ (w : World) (g c : Nat) (zs : List Int) : Prop where
  row : w.ownsRow 0 3 1 (.slice (some ⟨g, 0, none⟩) (zs.length + 1) c) (zs.length + 1) (zs.map intV ++ [.int .i64 42])
theorem OwnZ.below {w w' : World} {g c : Nat} {zs : List Int} (h : OwnZ w g c zs) (hb : Below w.heap.size w w') : OwnZ w' g c zs := ⟨own_below h.row hb (Nat.le_refl _)⟩
theorem OwnZ.one {w : World} {g c : Nat} {zs : List Int} (h : OwnZ w g c zs) : One intV w w.heap.size (some ⟨g, 0, none⟩) zs := by
  have h5 := Reads.front (k := zs.length) (Reads.of_own h.row) (by omega)
  rw [Nat.mul_one, List.take_append_of_le_length (by simp), List.take_of_length_le (by simp)] at h5
  exact h5
theorem OwnZ.mark {w : World} {g c : Nat} {zs : List Int} (h : OwnZ w g c zs) : w.cell? ⟨g, zs.length, none⟩ = some (.int .i64 42) := by
  have := h.row.cells (g := g) rfl zs.length (.int .i64 42) (by rw [List.getElem?_append_right (by simp)]; simp)
  rwa [addr0] at this

set_option maxRecDepth 100000 in
set_option maxHeartbeats 16000000 in
theorem choicesLaw_any (n : Int) (A : Option Addr) (c : Nat) (hs : List Hdr) (ls : List (List Offer)) (Z : Option Addr) (zc : Nat) (zs : List Int) (w : World) (h : Buys w w.heap.size A hs ls) (hl : (ls.length : Int) ≤ 9223372036854775807) (hls : ∀ l ∈ ls, (l.length : Int) ≤ 9223372036854775807) (hw : BWide ls)
    (hz : One intV w w.heap.size Z zs) (hzl : (zs.length : Int) ≤ 9223372036854775807) (hT : TabW w) :
    Calls Tryd.prog 4 #[instV n A ls.length c, .slice Z zs.length zc] w (LawPost w) := by
  have HA_w : Hid (Below w.heap.size w (w.alloc (.cells #[.int .i64 n, .slice A ls.length c] 35))) := hide ((Below.refl _ _).alloc (Nat.le_refl _) _)
  have HX : Hid ((w.alloc (.cells #[.int .i64 n, .slice A ls.length c] 35)).heap[w.heap.size]? = some (.cells #[.int .i64 n, .slice A ls.length c] 35 (0, 0))) := hide (heap_alloc_new w _)
  have HBU := hide h
  have HWB := hide hw
  have HZS := hide hz
  have HT := hide hT
  have HWK : Hid (∀ W, Below w.heap.size w W → Calls Tryd.prog 10 #[] W (ValPost (.bool true) W)) := hide (fun W hW => works_any W (HT.out.below hW))
  have HGR := hide (great_any n A c hs ls _ (h.up HA_w.out) hl hls)
  clear h hls hw hz hT
  simp only [instV] at *
  go_enter Tryd.func4, Tryd.ntmps4
  go_wp2_with fail
  generalize w.alloc (.cells #[.int .i64 n, .slice A ls.length c] 35) = w0 at *
  have hx0 : w0.cell? ⟨w.heap.size, 0, none⟩ = some (.int .i64 n) := cell_of_row w0 _ 0 _ _ (0, 0) HX.out
  have hx1 : w0.cell? ⟨w.heap.size, 1, none⟩ = some (.slice A ls.length c) := cell_of_row w0 _ 1 _ _ (0, 0) HX.out
  go_wp2_with fail
  refine (HGR.out).mono ?_
  rintro e w1 ⟨bo, rfl, hbo, hb1⟩
  replace HA_w : Hid (Below w.heap.size w w1) := hide (bt HA_w.out hb1)
  replace HX := hide ((hb1.block _ (lt_of_block HX.out)).trans HX.out)
  clear hb1 HGR hx0 hx1
  by_cases hgo : bo = false ∧ zs.length ≤ 60
  · obtain ⟨rfl, hz60⟩ := hgo
    obtain ⟨hl60, hll60⟩ := hbo rfl
    have hzi : ¬ ((60 : Int) < (zs.length : Int)) := by omega
    have HLL := hide hll60
    have HGI := hide (given_any n A c hs ls w1 (HBU.out.up HA_w.out) hl60 hll60)
    have HBL : Hid (BLens ls) := hide (fun l hm => by have := HLL.out l hm; omega)
    have hx0 : w1.cell? ⟨w.heap.size, 0, none⟩ = some (.int .i64 n) := cell_of_row w1 _ 0 _ _ (0, 0) HX.out
    have hx1 : w1.cell? ⟨w.heap.size, 1, none⟩ = some (.slice A ls.length c) := cell_of_row w1 _ 1 _ _ (0, 0) HX.out
    clear hbo hll60
    simp only [instV] at HGI
    go_wp2_with fail
    refine (HGI.out).mono ?_
    rintro e w2 ⟨A2, c2, hs2, rfl, ho2, hb2⟩
    have HO := hide ho2
    replace HA_w : Hid (Below w.heap.size w w2) := hide (bt HA_w.out hb2)
    replace HX := hide ((hb2.block _ (lt_of_block HX.out)).trans HX.out)
    clear ho2 hb2 HGI hx0 hx1
    simp only [instV]
    go_upto_region 4 with fail
    have HA_w2 : Hid (Below w2.heap.size w2 (w2.alloc (.cells #[.int .i64 n, .slice A2 ls.length c2] 35))) := hide ((Below.refl _ _).alloc (Nat.le_refl _) _)
    have HY : Hid ((w2.alloc (.cells #[.int .i64 n, .slice A2 ls.length c2] 35)).heap[w2.heap.size]? = some (.cells #[.int .i64 n, .slice A2 ls.length c2] 35 (0, 0))) := hide (heap_alloc_new w2 _)
    replace HX := hide ((HA_w2.out.block _ (lt_of_block HX.out)).trans HX.out)
    replace HA_w := hide (bt HA_w.out HA_w2.out)
    replace HO := hide (HO.out.below HA_w2.out)
    generalize w2.alloc (.cells #[.int .i64 n, .slice A2 ls.length c2] 35) = w3 at *
    clear HA_w2
    have HO1 : Hid ((w3.alloc (.cells #[] 3)).ownsRow w3.heap.size 3 1 (.slice (some ⟨w3.heap.size, 0, none⟩) 0 0) 0 []) := hide (World.ownsRow_made w3 #[] 0 (Nat.le_refl _) (by decide) rfl)
    have HB3 : Hid (Below w3.heap.size w3 (w3.alloc (.cells #[] 3))) := hide ((Below.refl _ _).alloc (Nat.le_refl _) _)
    have HRD : Hid (Reads (w3.alloc (.cells #[] 3)) w.heap.size 1 Z zs.length (zs.map intV)) := hide (HZS.out.below (bt HA_w.out HB3.out))
    have G1 : Hid (∀ u ∈ zs.map intV, u.oneCell' = true) := hide (fun u hu => by obtain ⟨z, _, rfl⟩ := List.mem_map.1 hu; rfl)
    have G5 : Hid (0 + zs.length ≤ maxLen) := hide (by unfold maxLen; omega)
    have G6 : Hid ((0 + zs.length) * 8 ≤ 140737488355328) := hide (by omega)
    have K1 : Hid (∀ u ∈ [Value.int .i64 42], u.oneCell' = true) := hide (fun u hu => by simp at hu; subst hu; rfl)
    have K2 : Hid (zs.length + 1 ≤ maxLen) := hide (by unfold maxLen; omega)
    have K3 : Hid ((zs.length + 1) * 8 ≤ 140737488355328) := hide (by omega)
    have h0z : (0 : Int) ≤ (zs.length : Int) := by omega
    go_upto_region 5 with (first | (at_builtin; refine wpList_append_any rfl (.tmp 22) (.tmp 23) 36 rfl w3.heap.size 3 _ 1 8 infoI Tryd.underlying36 rfl (by decide) _ 0 [] rfl HO1.out w.heap.size Z zs.length zc (zs.map intV) rfl HRD.out G1.out G5.out G6.out HB3.out.size ?_; intro v1 w4 hown1 hg1 _; rw [Nat.zero_add, List.nil_append] at hown1; obtain ⟨A1, c1, hv1, _⟩ := own_sh hown1; subst hv1; have HO4 := hide hown1; have HB4 : Hid (Below w3.heap.size w3 w4) := hide (HB3.out.grown hg1 HB3.out.size (fun j hj => by have := Option.some.inj (show some w3.heap.size = some j from hj); omega)); have K4 : Hid (w3.heap.size ≤ w4.heap.size) := hide HB4.out.size; clear hown1 hg1) | (at_builtin; refine wpList_app rfl (.tmp 24) (.tmp 25) 36 rfl w3.heap.size (.int .i64 0) 1 8 infoI Tryd.underlying36 rfl (by decide) _ _ _ rfl HO4.out 1 1 rfl rfl K1.out K2.out K3.out K4.out ?_; intro v8 w8 hown8 hg8 hlt8 _; obtain ⟨g8, c8, hv8, _, _⟩ := hown8.form (by omega); subst hv8; have hcap8 : (zs.length : Int) + 1 ≤ (c8 : Int) := (by obtain ⟨_, _, e, hc⟩ := own_sh hown8; injection e with _ _ e; omega); have HZO : Hid (OwnZ w8 g8 c8 zs) := hide ⟨own_base hown8 (Nat.zero_le _)⟩; have HB8 : Hid (Below w3.heap.size w3 w8) := hide (HB4.out.grown hg8 HB4.out.size (fun j hj => (HO4.out.lt j hj).1)); clear hown8 hg8 hlt8))
    replace HA_w := hide (bt HA_w.out HB8.out)
    replace HX := hide ((HB8.out.block _ (lt_of_block HX.out)).trans HX.out)
    replace HY := hide ((HB8.out.block _ (lt_of_block HY.out)).trans HY.out)
    replace HO := hide (HO.out.below HB8.out)
    clear HO1 HB3 HRD G1 G5 G6 K1 K2 K3 K4 HO4 HB4 HB8
    have HA_w8 : Hid (Below w8.heap.size w8 w8) := hide (Below.refl _ _)
    have HA_w8w := hide HA_w.out
    have HC : Hid (∀ W, Below w8.heap.size w8 W → W.cell? ⟨w.heap.size, 0, none⟩ = some (.int .i64 n) ∧ W.cell? ⟨w.heap.size, 1, none⟩ = some (.slice A ls.length c) ∧ W.cell? ⟨w2.heap.size, 0, none⟩ = some (.int .i64 n) ∧ W.cell? ⟨w2.heap.size, 1, none⟩ = some (.slice A2 ls.length c2) ∧ W.cell? ⟨g8, zs.length, none⟩ = some (.int .i64 42)) := hide (fun W hW => ⟨cell_of_row W _ 0 _ _ (0, 0) ((hW.block _ (lt_of_block HX.out)).trans HX.out), cell_of_row W _ 1 _ _ (0, 0) ((hW.block _ (lt_of_block HX.out)).trans HX.out), cell_of_row W _ 0 _ _ (0, 0) ((hW.block _ (lt_of_block HY.out)).trans HY.out), cell_of_row W _ 1 _ _ (0, 0) ((hW.block _ (lt_of_block HY.out)).trans HY.out), (HZO.out.below hW).mark⟩)
    have HCM : Hid (∀ W, Below w8.heap.size w8 W → Calls Tryd.prog 18 #[.agg #[.int .i64 n, .slice A2 ls.length c2], .slice (some ⟨g8, 0, none⟩) zs.length c8] W (ValPost (.tuple #[.int .i64 (choiceC n ls zs), .int .i64 (choiceE n ls zs)]) W)) := hide (fun W hW => choice_any n A2 c2 hs2 ls (some ⟨g8, 0, none⟩) c8 zs W ((HO.out.below hW).buys) (by omega) HBL.out HWB.out (HZO.out.below hW).one (by omega) (HT.out.below (bt HA_w.out hW)))
    have HCR : Hid (∀ W, Below w8.heap.size w8 W → Calls Tryd.prog 19 #[.agg #[.int .i64 n, .slice A ls.length c], .slice Z zs.length zc] W (ValPost (.tuple #[.int .i64 (choiceC n ls zs), .int .i64 (choiceE n ls zs)]) W)) := hide (fun W hW => refchoice_any n A c hs ls Z zc zs W (HBU.out.up (bt HA_w.out hW)) (by omega) HBL.out HWB.out (HZS.out.up (bt HA_w.out hW)) (by omega))
    have HIM : Hid (∀ W, Below w8.heap.size w8 W → Calls Tryd.prog 21 #[.agg #[.int .i64 n, .slice A2 ls.length c2]] W (ValPost (.int .i64 (instE n ls)) W)) := hide (fun W hW => inst_any n A2 c2 hs2 ls W ((HO.out.below hW).buys) (by omega) HBL.out HWB.out)
    have HIR : Hid (∀ W, Below w8.heap.size w8 W → Calls Tryd.prog 22 #[.agg #[.int .i64 n, .slice A ls.length c]] W (ValPost (.int .i64 (instE n ls)) W)) := hide (fun W hW => inst08_any n A c hs ls W (HBU.out.up (bt HA_w.out hW)) (by omega) HBL.out HWB.out)
    have HST : Hid (∀ W, Below w8.heap.size w8 W → Calls Tryd.prog 23 #[.agg #[.int .i64 n, .slice A2 ls.length c2], .agg #[.int .i64 n, .slice A ls.length c]] W (ValPost (.bool true) W)) := hide (fun W hW => stays_any n _ A2 c2 hs2 A c hs ls W (HO.out.below hW) (HBU.out.up (bt HA_w.out hW)) hl60 HLL.out)
    have HNU := hide num_any
    have HZA : Hid (∀ W (k : Nat), Below w8.heap.size w8 W → k < zs.length → ∃ z b o, W.cell? ⟨g8, k, none⟩ = some (.int .i64 z) ∧ Z = some ⟨b, o, none⟩ ∧ W.cell? ⟨b, o + k, none⟩ = some (.int .i64 z)) := hide (fun W k hW hk => by
      obtain ⟨b, o, e, hb, hc⟩ := (HZS.out.up (bt HA_w.out hW)).at_ (by omega)
      obtain ⟨b', o', e', hb', hc'⟩ := (HZO.out.below hW).one.at_ (by omega)
      injection e' with e'
      injection e' with e1 e2
      subst e1 e2
      refine ⟨zs[k], b, o, ?_, e, hc k _ (List.getElem?_eq_getElem hk)⟩
      have := hc' k _ (List.getElem?_eq_getElem hk)
      rwa [Nat.zero_add] at this)
    generalize choiceC n ls zs = q1 at *
    generalize choiceE n ls zs = q2 at *
    generalize instE n ls = q3 at *
    obtain ⟨hx0, hx1, hy0, hy1, hmk⟩ := HC.out w8 HA_w8.out
    go_wp2_with fail
    refine (HCM.out w8 HA_w8.out).mono ?_
    rintro e w9 ⟨rfl, hb⟩
    replace HA_w : Hid (Below w.heap.size w w9) := hide (bt HA_w.out hb)
    replace HA_w8 : Hid (Below w8.heap.size w8 w9) := hide (bt HA_w8.out hb)
    clear hx0 hx1 hy0 hy1 hmk
    obtain ⟨hx0, hx1, hy0, hy1, hmk⟩ := HC.out w9 HA_w8.out
    clear hb
    go_wp2_with fail
    refine (HCR.out w9 HA_w8.out).mono ?_
    rintro e w10 ⟨rfl, hb⟩
    replace HA_w : Hid (Below w.heap.size w w10) := hide (bt HA_w.out hb)
    replace HA_w8 : Hid (Below w8.heap.size w8 w10) := hide (bt HA_w8.out hb)
    clear hx0 hx1 hy0 hy1 hmk
    clear hb
    have HQ : Hid (Below w8.heap.size w8 w10.drew) := hide HA_w8.out.drew
    have hqq : IntKind.i64.wrap ((zs.length : Int) + 1) = (zs.length : Int) + 1 := Go.IntWalk.i64_in _ (by omega)
    have hq0 : (0 : Int) ≤ (zs.length : Int) + 1 := by omega
    have hq1 : ((zs.length : Int) + 1).toNat = zs.length + 1 := by omega
    have hq2 : (zs.length : Int) < (zs.length : Int) + 1 := by omega
    clear HA_w8
    go_wp2_with fail
    go_region_held3 (fun w' => w'.cell? ⟨w.heap.size, 0, none⟩ = some (.int .i64 n) ∧ w'.cell? ⟨w.heap.size, 1, none⟩ = some (.slice A ls.length c) ∧ w'.cell? ⟨w2.heap.size, 0, none⟩ = some (.int .i64 n) ∧ w'.cell? ⟨w2.heap.size, 1, none⟩ = some (.slice A2 ls.length c2) ∧ w'.cell? ⟨g8, zs.length, none⟩ = some (.int .i64 42)) (exact HC.out _ HQ.out) (first | (go_at_call 21; refine (HIM.out _ HQ.out).mono ?_; rintro e wq ⟨rfl, hb⟩; replace HQ := hide (bt HQ.out hb); clear hb) | (go_at_call 22; refine (HIR.out _ HQ.out).mono ?_; rintro e wq ⟨rfl, hb⟩; replace HQ := hide (bt HQ.out hb); clear hb) | (go_at_call 20; refine (HNU.out _ _).mono ?_; rintro e wq ⟨rfl, hb⟩; replace HQ := hide (bt HQ.out hb); clear hb) | (go_at_call 23; refine (HST.out _ HQ.out).mono ?_; rintro e wq ⟨rfl, hb⟩; replace HQ := hide (bt HQ.out hb); clear hb))
    all_goals (
      go_wp2_with fail
      go_loopw [11] (fun iv wr => ∃ k : Nat, k ≤ zs.length ∧ iv = .int .i64 k ∧ Below w8.heap.size w8 wr) (fun iv _ => zs.length - (intOf iv).toNat)
      case atStart => exact ⟨0, Nat.zero_le _, rfl, HQ.out⟩
      case round =>
        obtain ⟨k, hk, rfl, hb⟩ := hrel
        replace HQ := hide hb
        clear hb
        by_cases hlt : k < zs.length
        · obtain ⟨z, b, o, d0, rfl, d1⟩ := HZA.out wr k HQ.out hlt
          have hki : (k : Int) < (zs.length : Int) := by omega
          go_wp2_with fail
          go_quiet (fail)
          go_wp2_with fail
          go_roundw
          case rel => exact ⟨k + 1, by omega, by go_num, below_drewN HQ.out _⟩
          case measure => simp [intOf]; omega
        · obtain rfl : k = zs.length := by omega
          go_wp2_with fail
          refine (HWK.out wr (bt HA_w8w.out HQ.out)).mono ?_
          rintro e wz ⟨rfl, hb⟩
          have HZZ := hide (bt (bt HA_w8w.out HQ.out) hb)
          clear hb
          go_wp2_with fail
          go_ret
          exact ⟨rfl, HZZ.out⟩)
  · have hbz : bo = true ∨ (bo = false ∧ (60 : Int) < (zs.length : Int)) := by
      cases bo
      · right
        exact ⟨rfl, by have : ¬ zs.length ≤ 60 := fun h => hgo ⟨rfl, h⟩; omega⟩
      · exact .inl rfl
    clear hbo hgo
    rcases hbz with rfl | ⟨rfl, hz60⟩
    · go_wp2_with fail
      refine (HWK.out w1 HA_w.out).mono ?_
      rintro e w2 ⟨rfl, hb⟩
      have HZZ := hide (bt HA_w.out hb)
      clear hb
      go_wp2_with fail
      go_ret
      exact ⟨rfl, HZZ.out⟩
    · go_wp2_with fail
      refine (HWK.out w1 HA_w.out).mono ?_
      rintro e w2 ⟨rfl, hb⟩
      have HZZ := hide (bt HA_w.out hb)
      clear hb
      go_wp2_with fail
      go_ret
      exact ⟨rfl, HZZ.out⟩
end Go.Proofs.YtkiebjgpghajbaaDoor
