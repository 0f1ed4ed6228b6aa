/- The walk of the law PricesSupports. -/
import Derived.Test.YtinkieogcpidkaaDoorLwB
namespace Go.Proofs.YtinkieogcpidkaaDoor
open Go.RowKit Go.Maps Go.Shelf
open Go.ChangeMaps Go.WideMaps

theorem infoN : EI Tryd.prog 3 (.int .i64 0) 1 8 := by unfold EI; kernel_rfl
/-- The same, with a choice lent. -/
structure LzS (w w0 : World) (n : Int) (ls : List (List Offer)) (q : Nat) (A2 : Option Addr) (c2 : Nat) (hs2 : List Hdr) (gm cm : Nat) (p : List Int) (gz cz : Nat) (zs : List Int) (W : World) : Prop where
  s : LwS w w0 n ls q A2 c2 hs2 gm cm p W
  z : W.ownsRow w.heap.size 3 1 (.slice (some ⟨gz, 0, none⟩) (zs.length + 1) cz) (zs.length + 1) ((zs ++ [42]).map intV)
section
variable {w w0 W W' : World} {n : Int} {A A2 : Option Addr} {c c2 : Nat} {ls : List (List Offer)} {hs2 : List Hdr} {q gm cm gz cz : Nat} {p zs : List Int}
theorem LzS.below (h : LzS w w0 n ls q A2 c2 hs2 gm cm p gz cz zs W) (hb : Below W.heap.size W W') : LzS w w0 n ls q A2 c2 hs2 gm cm p gz cz zs W' :=
  ⟨h.s.below hb, own_below h.z hb (Nat.le_refl _)⟩
theorem LzS.ints (h : LzS w w0 n ls q A2 c2 hs2 gm cm p gz cz zs W) : One intV W W.heap.size (some ⟨gz, 0, none⟩) zs := by
  have h1 := Reads.of_own h.z
  have h2 := h1.front (k := zs.length) (by omega)
  unfold One
  rw [Nat.mul_one, List.map_append, List.take_left' (by simp)] at h2
  exact h2
theorem LzS.mark (h : LzS w w0 n ls q A2 c2 hs2 gm cm p gz cz zs W) : W.cell? ⟨gz, zs.length, none⟩ = some (.int .i64 42) := by
  have h1 := h.z.cells (g := gz) rfl zs.length (.int .i64 42) (by simp)
  rwa [addr0'] at h1
end

set_option maxRecDepth 100000 in
set_option maxHeartbeats 16000000 in
theorem supportsLaw_any (n : Int) (A : Option Addr) (c : Nat) (hs : List Hdr) (ls : List (List Offer)) (Z : Option Addr) (zc : Nat) (zs : List Int) (P : Option Addr) (pc : Nat) (l : List Int) (w : World) (hT : TabW w)
    (hB : Buys w w.heap.size A hs ls) (hlm : (ls.length : Int) ≤ 9223372036854775807) (hw : BWide ls) (hz : One intV w w.heap.size Z zs) (hl : One intV w w.heap.size P l) :
    Calls Tryd.prog 4 #[instV n A ls.length c, .slice Z zs.length zc, .slice P l.length pc] w (ValPost (.bool true) w) := by
  have HT := hide hT
  have HBY := hide hB
  have HL := hide hl
  have HZ := hide hz
  have HW := hide hw
  have HWK := hide (fun W (hb : Below w.heap.size w W) => works_any W (hT.below hb))
  have HGR := hide (fun W (hb : Below w.heap.size w W) => great_any n A c hs ls W (hB.up hb) hlm)
  have HB0 : Hid (Below w.heap.size w (w.alloc (.cells #[.int .i64 n, .slice A ls.length c] 24))) := hide ((Below.refl _ _).alloc (Nat.le_refl _) _)
  have HX0 : Hid ((w.alloc (.cells #[.int .i64 n, .slice A ls.length c] 24)).heap[w.heap.size]? = some (.cells #[.int .i64 n, .slice A ls.length c] 24 (0, 0))) := hide (heap_alloc_new w _)
  clear hT hB hl hw hz
  simp only [instV] at *
  go_enter Tryd.func4, Tryd.ntmps4
  go_upto_region 1 with fail
  generalize w.alloc (.cells #[.int .i64 n, .slice A ls.length c] 24) = w0 at *
  have HB := hide HB0.out
  have HK0 : Hid (Below w0.heap.size w0 w0) := hide (Below.refl _ _)
  have x0 := cell_of_row _ _ 0 _ _ (0, 0) HX0.out
  have x1 := cell_of_row _ _ 1 _ _ (0, 0) HX0.out
  simp only [List.getElem?_toArray, List.getElem?_cons_zero, List.getElem?_cons_succ] at x0 x1
  have HG := hide (HGR.out w0 HB.out)
  cases hgr : greatB ls
  case true =>
    rw [hgr] at HG
    clear hgr
    go_wp2_with (first | (go_at_call 7; refine (HG.out).mono ?_; rintro e w1 ⟨rfl, hb1⟩; have HB := hide (HB.out.trans (hb1.mono HB.out.size)); clear hb1) | (go_at_call 8; refine (HWK.out _ HB.out).mono ?_; rintro e wz ⟨rfl, hbz⟩; have HBZ := hide (HB.out.trans (hbz.mono HB.out.size)); clear hbz))
    go_ret
    exact ⟨rfl, HBZ.out⟩
  rw [hgr] at HG
  have HNO := hide (great_no hgr)
  clear hgr
  by_cases h1 : 100 < zs.length
  · have h1i : (100 : Int) < (zs.length : Int) := by omega
    go_wp2_with (first | (go_at_call 7; refine (HG.out).mono ?_; rintro e w1 ⟨rfl, hb1⟩; have HB := hide (HB.out.trans (hb1.mono HB.out.size)); clear hb1) | (go_at_call 8; refine (HWK.out _ HB.out).mono ?_; rintro e wz ⟨rfl, hbz⟩; have HBZ := hide (HB.out.trans (hbz.mono HB.out.size)); clear hbz))
    go_ret
    exact ⟨rfl, HBZ.out⟩
  have h1i : ¬ ((100 : Int) < (zs.length : Int)) := by omega
  by_cases h2 : 100 < l.length
  · have h2i : (100 : Int) < (l.length : Int) := by omega
    go_wp2_with (first | (go_at_call 7; refine (HG.out).mono ?_; rintro e w1 ⟨rfl, hb1⟩; have HB := hide (HB.out.trans (hb1.mono HB.out.size)); clear hb1) | (go_at_call 8; refine (HWK.out _ HB.out).mono ?_; rintro e wz ⟨rfl, hbz⟩; have HBZ := hide (HB.out.trans (hbz.mono HB.out.size)); clear hbz))
    go_ret
    exact ⟨rfl, HBZ.out⟩
  have h2i : ¬ ((100 : Int) < (l.length : Int)) := by omega
  have hl60 : ls.length ≤ 60 := HNO.out.1
  have hl6 : ls.length ≤ 1000000 := by omega
  have hp6 : l.length ≤ 1000000 := by omega
  have HBL : Hid (BLens ls) := hide (fun l hl => by have := HNO.out.2 l hl; omega)
  have HGV := hide (fun W (hb : Below w.heap.size w W) => given_any n A c hs ls W (HBY.out.up hb) hl60 HNO.out.2)
  have HLE := hide (fun W (hb : Below w.heap.size w W) => lent_any P pc l W (HL.out.up hb) hp6)
  unfold GivenPost at HGV
  unfold LentP at HLE
  simp only [instV] at HGV
  go_upto_region 3 with (go_at_call 7; refine (HG.out).mono ?_; rintro e w1 ⟨rfl, hb1⟩; have HB := hide (HB.out.trans (hb1.mono HB.out.size)); have HK0 := hide hb1; clear hb1)
  clear x0 x1
  have x0 := cell_of_row _ _ 0 _ _ (0, 0) ((HK0.out.block _ (lt_of_block HX0.out)).trans HX0.out)
  have x1 := cell_of_row _ _ 1 _ _ (0, 0) ((HK0.out.block _ (lt_of_block HX0.out)).trans HX0.out)
  simp only [List.getElem?_toArray, List.getElem?_cons_zero, List.getElem?_cons_succ] at x0 x1
  go_upto_region 4 with (first
    | (go_at_call 9; refine (HGV.out _ HB.out).mono ?_; rintro e w2 ⟨A2, c2, hs2, rfl, hown, hb2⟩; have HO2 := hide (hown.base HB.out.size); have HB := hide (HB.out.trans (hb2.mono HB.out.size)); have HK0 := hide (HK0.out.trans (hb2.mono HK0.out.size)); clear hown hb2)
    | (go_at_call 10; refine (HLE.out _ HB.out).mono ?_; rintro e w3 ⟨gm, cm, rfl, hown, hb3, hcm⟩; have HM3 := hide (own_base hown HB.out.size); have HO3 := hide (HO2.out.below hb3); have HB := hide (HB.out.trans (hb3.mono HB.out.size)); have HK0 := hide (HK0.out.trans (hb3.mono HK0.out.size)); have HCM := hide hcm; clear hown hb3 hcm))
  have HS : Hid (LwS w w0 n ls w3.heap.size A2 c2 hs2 gm cm l (w3.alloc (.cells #[.int .i64 n, .slice A2 ls.length c2] 24))) := hide (by
    have hb := (Below.refl w3.heap.size w3).alloc (Nat.le_refl _) (.cells #[.int .i64 n, .slice A2 ls.length c2] 24)
    exact ⟨HB.out.trans (hb.mono HB.out.size), HK0.out.trans (hb.mono HK0.out.size), heap_alloc_new w3 _, HO3.out.below hb, own_below HM3.out hb (Nat.le_refl _)⟩)
  obtain ⟨q, hq⟩ : ∃ q, q = w3.heap.size := ⟨_, rfl⟩
  rw [← hq] at HS ⊢
  generalize w3.alloc (.cells #[.int .i64 n, .slice A2 ls.length c2] 24) = w4 at *
  clear hq x0 x1 HB HK0 HO2 HO3 HM3 HG HGV HLE HGR
  have HO0 : Hid ((w4.alloc (.cells #[] 3)).ownsRow w4.heap.size 3 1 (.slice (some ⟨w4.heap.size, 0, none⟩) 0 0) 0 []) := hide (World.ownsRow_made w4 #[] 0 (Nat.le_refl _) (by decide) rfl)
  have HB4 : Hid (Below w4.heap.size w4 (w4.alloc (.cells #[] 3))) := hide ((Below.refl _ _).alloc (Nat.le_refl _) _)
  have HA1 := hide (HZ.out.up HS.out.bel)
  have G1 := hide (ints_one zs)
  have G5 : Hid (0 + zs.length ≤ maxLen) := hide (by unfold maxLen; omega)
  have G6 : Hid ((0 + zs.length) * 8 ≤ 140737488355328) := hide (by omega)
  have G2 := hide (ints_one [42])
  have G7 : Hid (zs.length + 1 ≤ maxLen) := hide (by unfold maxLen; omega)
  have G8 : Hid ((zs.length + 1) * 8 ≤ 140737488355328) := hide (by omega)
  go_upto_region 5 with (first | (at_builtin; refine wpList_append_any rfl (.tmp 31) (.tmp 32) 45 rfl w4.heap.size 3 _ 1 8 infoN Tryd.underlying45 rfl (by decide) _ 0 [] rfl HO0.out w4.heap.size Z zs.length zc (zs.map intV) rfl (HA1.out.below HB4.out) G1.out G5.out G6.out HB4.out.size ?_; intro v1 w5 hown1 hg1 _; rw [Nat.zero_add, List.nil_append] at hown1; obtain ⟨A1, c1, hv1, _⟩ := own_sh hown1; subst hv1; have HO1 := hide hown1; have HB5 : Hid (Below w4.heap.size w4 w5) := hide (HB4.out.grown hg1 HB4.out.size (fun j hj => by have := Option.some.inj (show some w4.heap.size = some j from hj); omega)); clear hown1 hg1) | (at_builtin; refine wpList_append_any rfl (.tmp 33) (.tmp 34) 45 rfl w4.heap.size 3 _ 1 8 infoN Tryd.underlying45 rfl (by decide) _ zs.length (zs.map intV) rfl (own_below HO1.out ((Below.refl _ _).alloc (Nat.le_refl _) _) (Nat.le_refl _)) _ (some ⟨w5.heap.size, 0, none⟩) 1 1 ([42].map intV) rfl (reads_row (xs := [.int .i64 42]) (heap_alloc_new w5 _) rfl) G2.out G7.out G8.out (by have := HB5.out.size; simp; omega) ?_; intro v2 w6 hown2 hg2 _; obtain ⟨gz, cz, hv2, _⟩ := hown2.form (by omega); subst hv2; have HB6 : Hid (Below w4.heap.size w4 w6) := hide ((HB5.out.alloc HB5.out.size _).grown hg2 (by have := HB5.out.size; simp; omega) (fun j hj => (HO1.out.lt j hj).1)); have hcap : (zs.length : Int) ≤ (cz : Int) := (by obtain ⟨_, _, e, hc⟩ := own_sh hown2; injection e with _ _ e; omega); have HCZ : Hid (zs.length + 1 ≤ cz) := hide (by obtain ⟨_, _, e, hc⟩ := own_sh hown2; injection e with _ _ e; omega); have HO2 : Hid (w6.ownsRow w4.heap.size 3 1 (.slice (some ⟨gz, 0, none⟩) (zs.length + 1) cz) (zs.length + 1) ((zs ++ [42]).map intV)) := hide (by rw [List.map_append]; exact hown2); clear hown2 hg2))
  have HS6 : Hid (LzS w w0 n ls q A2 c2 hs2 gm cm l gz cz zs w6) := hide ⟨HS.out.below HB6.out, own_base HO2.out HS.out.bel.size⟩
  have hwl : wrap64 ((zs.length : Int) + 1) = ((zs.length + 1 : Nat) : Int) := by unfold wrap64; omega
  have hci : (zs.length : Int) + 1 ≤ (cz : Int) := by have := HCZ.out; omega
  clear HO0 HB4 HA1 HO1 HB5 HO2 HB6 HS hcap G1 G2 G5 G6 G7 G8
  have HS := hide HS6.out
  clear HS6
  have hz8 : zs.length * 8 ≤ 140737488351232 := by omega
  obtain ⟨⟨bv, be⟩, hbb⟩ : ∃ r, supE n ls zs l = r := ⟨_, rfl⟩
  have HF1 := hide (fun W (h : LzS w w0 n ls q A2 c2 hs2 gm cm l gz cz zs W) => supports_any n A2 c2 hs2 ls (some ⟨gz, 0, none⟩) cz zs (some ⟨gm, 0, none⟩) cm l W (HT.out.below h.s.bel) h.s.own.buys h.s.own.cap hl6 HBL.out HW.out h.s.ints.2 hp6 (fun e => by cases e) h.ints hz8)
  have HF2 := hide (fun W (h : LzS w w0 n ls q A2 c2 hs2 gm cm l gz cz zs W) => refsupports_any n A c hs ls Z zc zs P pc l W (HBY.out.up h.s.bel) hl6 HBL.out HW.out (HL.out.up h.s.bel) hp6 (HZ.out.up h.s.bel) hz8)
  rw [hbb] at HF1 HF2
  have HSY := hide (fun W (h : LzS w w0 n ls q A2 c2 hs2 gm cm l gz cz zs W) => stays_any n w.heap.size A2 c2 hs2 A c hs ls W h.s.own (HBY.out.up h.s.bel) hl60 HNO.out.2)
  have HKP := hide (fun W (h : LzS w w0 n ls q A2 c2 hs2 gm cm l gz cz zs W) => kept_any gm cm P pc l W h.s.ints.1 (HL.out.up h.s.bel) HCM.out hp6)
  have HNM := hide (fun n W => num_any n W)
  simp only [instV] at HF1 HF2 HSY
  clear hbb hz8
  obtain ⟨x0, x1, y0, y1⟩ := HS.out.s.cells HX0.out
  have z0 := HS.out.mark
  go_upto_region 6 with (go_at_call 18; refine (HF1.out _ HS.out).mono ?_; rintro e wn ⟨rfl, hb⟩; have HS := hide (HS.out.below hb); clear hb; clear x0 x1 y0 y1 z0; obtain ⟨x0, x1, y0, y1⟩ := HS.out.s.cells HX0.out; have z0 := HS.out.mark)
  go_upto_region 7 with (go_at_call 19; refine (HF2.out _ HS.out).mono ?_; rintro e wn ⟨rfl, hb⟩; have HS := hide (HS.out.below hb); clear hb; clear x0 x1 y0 y1 z0; obtain ⟨x0, x1, y0, y1⟩ := HS.out.s.cells HX0.out; have z0 := HS.out.mark)
  go_wp2_with (first
    | (go_at_call 15; refine (HNM.out _ _).mono ?_; rintro e wn ⟨rfl, hb⟩; have HS := hide (HS.out.below hb); clear hb; clear x0 x1 y0 y1 z0; obtain ⟨x0, x1, y0, y1⟩ := HS.out.s.cells HX0.out; have z0 := HS.out.mark)
    | (go_at_call 16; refine (HSY.out _ HS.out).mono ?_; rintro e wn ⟨rfl, hb⟩; have HS := hide (HS.out.below hb); clear hb; clear x0 x1 y0 y1 z0; obtain ⟨x0, x1, y0, y1⟩ := HS.out.s.cells HX0.out; have z0 := HS.out.mark)
    | (go_at_call 17; refine (HKP.out _ HS.out).mono ?_; rintro e wn ⟨rfl, hb⟩; have HS := hide (HS.out.below hb); clear hb; clear x0 x1 y0 y1 z0; obtain ⟨x0, x1, y0, y1⟩ := HS.out.s.cells HX0.out; have z0 := HS.out.mark)
    | (go_at_call 8; refine (HWK.out _ HS.out.s.bel).mono ?_; rintro e wn ⟨rfl, hb⟩; have HS := hide (HS.out.below hb); clear hb))
  go_ret
  exact ⟨rfl, HS.out.s.bel⟩
end Go.Proofs.YtinkieogcpidkaaDoor
