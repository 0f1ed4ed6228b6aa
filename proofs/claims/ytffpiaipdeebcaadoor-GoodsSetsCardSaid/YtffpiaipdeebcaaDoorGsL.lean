/- The walk of the law GoodsSets. -/
import Derived.Test.YtffpiaipdeebcaaDoorKn7
import Derived.Test.YtffpiaipdeebcaaDoorGd4
import Derived.Test.YtffpiaipdeebcaaDoorUntil
namespace Go.Proofs.YtffpiaipdeebcaaDoor
open Go.RowKit Go.Maps Go.Shelf
open Go.ChangeMaps Go.WideMaps

/-- What the law holds: its copies, each with a mark behind. -/
structure GsS (w : World) (gm cm : Nat) (l : List Int) (gk ck : Nat) (gs : List Nat) (W : World) : Prop where
  bel : Below w.heap.size w W
  m : W.ownsRow w.heap.size 3 1 (.slice (some ⟨gm, 0, none⟩) (l.length + 1) cm) (l.length + 1) ((l ++ [771]).map intV)
  k : W.ownsRow w.heap.size 25 1 (.slice (some ⟨gk, 0, none⟩) (gs.length + 1) ck) (gs.length + 1) ((gs ++ [77]).map gV)
section
variable {w W W' : World} {gm cm : Nat} {l : List Int} {gk ck : Nat} {gs : List Nat}
theorem GsS.below (h : GsS w gm cm l gk ck gs W) (hb : Below W.heap.size W W') : GsS w gm cm l gk ck gs W' :=
  ⟨h.bel.trans (hb.mono h.bel.size), own_below h.m hb (Nat.le_refl _), own_below h.k hb (Nat.le_refl _)⟩
theorem GsS.ints (h : GsS w gm cm l gk ck gs W) : One intV W W.heap.size (some ⟨gm, 0, none⟩) l := by
  have h2 := (Reads.of_own h.m).front (k := l.length) (by omega)
  unfold One
  rw [Nat.mul_one, List.map_append, List.take_left' (by simp)] at h2
  exact h2
theorem GsS.sets (h : GsS w gm cm l gk ck gs W) : One gV W W.heap.size (some ⟨gk, 0, none⟩) gs := by
  have h2 := (Reads.of_own h.k).front (k := gs.length) (by omega)
  unfold One
  rw [Nat.mul_one, List.map_append, List.take_left' (by simp)] at h2
  exact h2
theorem GsS.int (h : GsS w gm cm l gk ck gs W) {i : Nat} {x : Int} (hx : (l ++ [771])[i]? = some x) : W.cell? ⟨gm, i, none⟩ = some (.int .i64 x) := by
  have h1 := h.m.cells (g := gm) rfl i (.int .i64 x) (by rw [List.getElem?_map, hx]; rfl)
  rwa [addr07] at h1
theorem GsS.set (h : GsS w gm cm l gk ck gs W) {i : Nat} {x : Nat} (hx : (gs ++ [77])[i]? = some x) : W.cell? ⟨gk, i, none⟩ = some (.int .u32 (x : Int)) := by
  have h1 := h.k.cells (g := gk) rfl i (.int .u32 (x : Int)) (by rw [List.getElem?_map, hx]; rfl)
  rwa [addr07] at h1
end
theorem ints_one7 (p : List Int) : ∀ u ∈ p.map intV, u.oneCell' = true := fun u hu => by obtain ⟨x, _, rfl⟩ := List.mem_map.1 hu; rfl
theorem sets_one7 (p : List Nat) : ∀ u ∈ p.map gV, u.oneCell' = true := fun u hu => by obtain ⟨x, _, rfl⟩ := List.mem_map.1 hu; rfl

set_option maxRecDepth 100000 in
set_option maxHeartbeats 16000000 in
theorem setsLaw_any (A : Option Addr) (c : Nat) (l : List Int) (n : Int) (B : Option Addr) (cb : Nat) (gs : List Nat) (w : World) (hT : TabW w) (hM : MlW w)
    (hl : One intV w w.heap.size A l) (hs : One gV w w.heap.size B gs) (hl8 : l.length * 8 ≤ 140737488351232) (hs8 : gs.length * 4 ≤ 140737488351232) (hg : ∀ g ∈ gs, g < 4294967296) :
    Calls Tryd.prog 3 #[.slice A l.length c, .int .i64 n, .slice B gs.length cb] w (ValPost (.bool true) w) := by
  have HT := hide hT
  have HL := hide hl
  have HS := hide hs
  have HG := hide hg
  have HKN := hide (fun W (hb : Below w.heap.size w W) => known_any W (hT.below hb) (hM.below hb))
  have HNM := hide (fun n W => num_any n W)
  unfold SamePost at HNM
  clear hT hM hl hs hg
  have G1 := hide (ints_one7 l)
  have G2 : Hid (0 + l.length ≤ maxLen) := hide (by unfold maxLen; omega)
  have G3 : Hid ((0 + l.length) * 8 ≤ 140737488355328) := hide (by omega)
  have G4 := hide (ints_one7 [771])
  have G5 : Hid (l.length + 1 ≤ maxLen) := hide (by unfold maxLen; omega)
  have G6 : Hid ((l.length + 1) * 8 ≤ 140737488355328) := hide (by omega)
  have F1 := hide (sets_one7 gs)
  have F2 : Hid (0 + gs.length ≤ maxLen) := hide (by unfold maxLen; omega)
  have F3 : Hid ((0 + gs.length) * 4 ≤ 140737488355328) := hide (by omega)
  have F4 := hide (sets_one7 [77])
  have F5 : Hid (gs.length + 1 ≤ maxLen) := hide (by unfold maxLen; omega)
  have F6 : Hid ((gs.length + 1) * 4 ≤ 140737488355328) := hide (by omega)
  go_enter Tryd.func3, Tryd.ntmps3
  go_upto_region 2 with (first
    | (at_builtin; refine wpList_append_any rfl (.const (.slice none 0 0)) (.tmp 23) 22 rfl w.heap.size 3 _ 1 8 infoN7 Tryd.underlying22 rfl (by decide) _ 0 [] rfl (World.ownsRow_nil _ _ _ _) w.heap.size A l.length c (l.map intV) rfl HL.out G1.out G2.out G3.out (Nat.le_refl _) ?_; intro v1 w1 hown1 hg1 _; rw [Nat.zero_add, List.nil_append] at hown1; obtain ⟨A1, c1, hv1, _⟩ := own_sh hown1; subst hv1; have HO1 := hide hown1; have HB1 : Hid (Below w.heap.size w w1) := hide ((Below.refl _ _).grown hg1 (Nat.le_refl _) (fun j hj => by cases hj)); clear hown1 hg1)
    | (at_builtin; refine wpList_append_any rfl (.tmp 24) (.tmp 25) 22 rfl w.heap.size 3 _ 1 8 infoN7 Tryd.underlying22 rfl (by decide) _ l.length (l.map intV) rfl (own_below HO1.out ((Below.refl _ _).alloc (Nat.le_refl _) _) (Nat.le_refl _)) _ (some ⟨w1.heap.size, 0, none⟩) 1 1 ([771].map intV) rfl (reads_row7 (xs := [.int .i64 771]) (heap_alloc_new w1 _) rfl) G4.out G5.out G6.out (by have := HB1.out.size; simp; omega) ?_; intro v2 w2 hown2 hg2 _; obtain ⟨gm, cm, hv2, _⟩ := hown2.form (by omega); subst hv2; have HB2 : Hid (Below w.heap.size w w2) := hide ((HB1.out.alloc HB1.out.size _).grown hg2 (by have := HB1.out.size; simp; omega) (fun j hj => (HO1.out.lt j hj).1)); have hcapm : (l.length : Int) ≤ (cm : Int) := (by obtain ⟨_, _, e, hc⟩ := own_sh hown2; injection e with _ _ e; omega); have HO2 : Hid (w2.ownsRow w.heap.size 3 1 (.slice (some ⟨gm, 0, none⟩) (l.length + 1) cm) (l.length + 1) ((l ++ [771]).map intV)) := hide (by rw [List.map_append]; exact hown2); clear hown2 hg2))
  have HS2 := hide (HS.out.up HB2.out)
  go_upto_region 3 with (first
    | (at_builtin; refine wpList_append_any rfl (.const (.slice none 0 0)) (.tmp 27) 23 rfl w2.heap.size 25 _ 1 4 infoG Tryd.underlying23 rfl (by decide) _ 0 [] rfl (World.ownsRow_nil _ _ _ _) w2.heap.size B gs.length cb (gs.map gV) rfl HS2.out F1.out F2.out F3.out (Nat.le_refl _) ?_; intro v3 w3 hown3 hg3 _; rw [Nat.zero_add, List.nil_append] at hown3; obtain ⟨A3, c3, hv3, _⟩ := own_sh hown3; subst hv3; have HO3 := hide hown3; have HB3 : Hid (Below w2.heap.size w2 w3) := hide ((Below.refl _ _).grown hg3 (Nat.le_refl _) (fun j hj => by cases hj)); clear hown3 hg3)
    | (at_builtin; refine wpList_append_any rfl (.tmp 28) (.tmp 29) 23 rfl w2.heap.size 25 _ 1 4 infoG Tryd.underlying23 rfl (by decide) _ gs.length (gs.map gV) rfl (own_below HO3.out ((Below.refl _ _).alloc (Nat.le_refl _) _) (Nat.le_refl _)) _ (some ⟨w3.heap.size, 0, none⟩) 1 1 ([77].map gV) rfl (reads_row7 (xs := [gV 77]) (heap_alloc_new w3 _) rfl) F4.out F5.out F6.out (by have := HB3.out.size; simp; omega) ?_; intro v4 w4 hown4 hg4 _; obtain ⟨gk, ck, hv4, _⟩ := hown4.form (by omega); subst hv4; have HB4 : Hid (Below w2.heap.size w2 w4) := hide ((HB3.out.alloc HB3.out.size _).grown hg4 (by have := HB3.out.size; simp; omega) (fun j hj => (HO3.out.lt j hj).1)); have hcapk : (gs.length : Int) ≤ (ck : Int) := (by obtain ⟨_, _, e, hc⟩ := own_sh hown4; injection e with _ _ e; omega); have HO4 : Hid (w4.ownsRow w2.heap.size 25 1 (.slice (some ⟨gk, 0, none⟩) (gs.length + 1) ck) (gs.length + 1) ((gs ++ [77]).map gV)) := hide (by rw [List.map_append]; exact hown4); clear hown4 hg4))
  have HX : Hid (GsS w gm cm l gk ck gs w4) := hide ⟨HB2.out.trans (HB4.out.mono HB2.out.size), own_below HO2.out HB4.out (Nat.le_refl _), own_base HO4.out HB2.out.size⟩
  have hcm2 := HO2.out
  clear HO1 HB1 HO2 HS2 HO3 HB3 HO4 HB4 HB2 G1 G2 G3 G4 G5 G6 F1 F2 F3 F4 F5 F6 hcm2
  obtain ⟨⟨ov, oe⟩, hof⟩ : ∃ r, ofG l = r := ⟨_, rfl⟩
  obtain ⟨⟨av, ab⟩, haf⟩ : ∃ r, apartG gs = r := ⟨_, rfl⟩
  obtain ⟨iv, hiv⟩ : ∃ r, allI n = r := ⟨_, rfl⟩
  obtain ⟨ie, hie⟩ : ∃ r, allE n = r := ⟨_, rfl⟩
  have HO1 := hide (fun W (h : GsS w gm cm l gk ck gs W) => of_any (some ⟨gm, 0, none⟩) cm l W h.ints (by omega))
  have HO2 := hide (fun W (h : GsS w gm cm l gk ck gs W) => refof_any A c l W (HL.out.up h.bel) (by omega))
  have HA1 := hide (fun W => all_any n W)
  have HA2 := hide (fun W => refall_any n W)
  have HP1 := hide (fun W (h : GsS w gm cm l gk ck gs W) => (apart_any (some ⟨gk, 0, none⟩) ck gs W h.sets (by omega) HG.out (HT.out.below h.bel)).mono fun e w' h => apartG_post h)
  have HP2 := hide (fun W (h : GsS w gm cm l gk ck gs W) => refapart_any B cb gs W (HS.out.up h.bel) (by omega) HG.out)
  unfold AllPost at HA1
  unfold SamePost at HO1 HO2 HA2
  rw [hof] at HO1 HO2
  rw [haf] at HP1 HP2
  rw [hiv, hie] at HA1 HA2
  clear hof haf hiv hie
  go_upto_region 4 with (go_at_call 9; refine (HO1.out _ HX.out).mono ?_; rintro e w5 ⟨rfl, rfl⟩)
  go_upto_region 5 with (go_at_call 10; refine (HO2.out _ HX.out).mono ?_; rintro e w5 ⟨rfl, rfl⟩)
  go_upto_region 6 with (go_at_call 11; refine (HA1.out _).mono ?_; rintro e w5 ⟨rfl, rfl⟩)
  go_upto_region 7 with (go_at_call 12; refine (HA2.out _).mono ?_; rintro e w5 ⟨rfl, rfl⟩)
  go_upto_region 8 with (go_at_call 13; refine (HP1.out _ HX.out).mono ?_; rintro e w5 ⟨rfl, hb5⟩; have HX := hide (HX.out.below hb5); clear hb5)
  go_upto_region 9 with (go_at_call 14; refine (HP2.out _ HX.out).mono ?_; rintro e w6 ⟨rfl, hb6⟩; have HX := hide (HX.out.below hb6); clear hb6)
  clear HO1 HO2 HA1 HA2 HP1 HP2
  have m0 := HX.out.int (i := l.length) (x := 771) (by simp)
  have m1 := HX.out.set (i := gs.length) (x := 77) (by simp)
  go_upto_region 12 with (go_at_call 15; refine (HNM.out _ _).mono ?_; rintro e w7 ⟨rfl, rfl⟩)
  clear m0 m1
  go_loopw [21] (fun iv wr => ∃ k : Nat, k ≤ l.length ∧ iv = .int .i64 k ∧ GsS w gm cm l gk ck gs wr) (fun iv _ => l.length - (intOf iv).toNat)
  case atStart => exact ⟨0, Nat.zero_le _, rfl, HX.out⟩
  case round =>
  clear HX
  obtain ⟨k, hk, rfl, hx⟩ := hrel
  have HX := hide hx
  clear hx
  by_cases hlt : k < l.length
  case pos =>
    obtain ⟨bb, bo, rfl, hbB, hcc⟩ := One.at_ HL.out (by omega)
    obtain ⟨x, hx⟩ : ∃ x, l[k]? = some x := ⟨l[k], List.getElem?_eq_getElem hlt⟩
    have d1 := (HX.out.bel.cell (p := ⟨bb, bo + k, none⟩) hbB).trans (hcc k x hx)
    have d2 := HX.out.int (i := k) (x := x) (by rw [List.getElem?_append_left hlt]; exact hx)
    have hki : (k : Int) < (l.length : Int) := by omega
    clear hcc hx
    go_wp2_with fail
    go_quiet (fail)
    go_wp2_with fail
    go_roundw
    case rel => exact ⟨k + 1, by omega, by go_num, HX.out.below (below_drewN (Below.refl _ _) _)⟩
    case measure => simp [intOf]; omega
  case neg =>
  obtain rfl : k = l.length := by omega
  go_upto_region 17 with fail
  go_loopw [22] (fun iv wr => ∃ k : Nat, k ≤ gs.length ∧ iv = .int .i64 k ∧ GsS w gm cm l gk ck gs wr) (fun iv _ => gs.length - (intOf iv).toNat)
  case atStart => exact ⟨0, Nat.zero_le _, rfl, HX.out⟩
  case round =>
  clear HX
  obtain ⟨k, hk, rfl, hx⟩ := hrel
  have HX := hide hx
  clear hx
  by_cases hlt : k < gs.length
  case neg =>
    obtain rfl : k = gs.length := by omega
    go_wp2_with (go_at_call 22; refine (HKN.out _ HX.out.bel).mono ?_; rintro e wz ⟨rfl, hbz⟩; have HBZ := hide (HX.out.bel.trans (hbz.mono HX.out.bel.size)); clear hbz)
    go_ret
    exact ⟨rfl, HBZ.out⟩
  case pos =>
  obtain ⟨bb, bo, rfl, hbB, hcc⟩ := One.at_ HS.out (by omega)
  obtain ⟨g, hgx⟩ : ∃ x, gs[k]? = some x := ⟨gs[k], List.getElem?_eq_getElem hlt⟩
  obtain ⟨g0, hg0⟩ : ∃ x, gs[0]? = some x := ⟨gs[0], List.getElem?_eq_getElem (by omega)⟩
  have hg32 := HG.out g (List.mem_of_getElem? hgx)
  have hg03 := HG.out g0 (List.mem_of_getElem? hg0)
  have HCE : Hid (∀ W, GsS w gm cm l gk ck gs W → W.cell? ⟨gk, k, none⟩ = some (.int .u32 (g : Int)) ∧ W.cell? ⟨bb, bo + k, none⟩ = some (.int .u32 (g : Int)) ∧ W.cell? ⟨bb, bo, none⟩ = some (.int .u32 (g0 : Int))) := hide (fun W h => ⟨h.set (by rw [List.getElem?_append_left hlt]; exact hgx), (h.bel.cell (p := ⟨bb, bo + k, none⟩) hbB).trans (hcc k g hgx), (h.bel.cell (p := ⟨bb, bo, none⟩) hbB).trans (hcc 0 g0 hg0)⟩)
  have hki : (k : Int) < (gs.length : Int) := by omega
  have h0i : (0 : Int) < (gs.length : Int) := by omega
  have hki1 : (k : Int) < (gs.length : Int) + 1 := by omega
  have h0n : 0 < gs.length := by omega
  have HC1 := hide (fun W => has_any g hg32 n W)
  have HC2 := hide (fun W => refhas_any g hg32 n W)
  have HC3 := hide (fun W => within_any g g0 hg32 hg03 W)
  have HC4 := hide (fun W => refwithin_any g g0 hg32 hg03 W)
  have HC5 := hide (fun W => count_any g hg32 W)
  have HC6 := hide (fun W => refeach_any g hg32 W)
  unfold SamePost at HC1 HC2
  unfold BoolPost at HC3
  unfold EachP at HC6
  obtain ⟨hv, hhv⟩ : ∃ r, hasB g n = r := ⟨_, rfl⟩
  obtain ⟨wv, hwv⟩ : ∃ r, withinB g g0 = r := ⟨_, rfl⟩
  obtain ⟨E, hE⟩ : ∃ r, eachL g = r := ⟨_, rfl⟩
  rw [hhv] at HC1 HC2
  rw [hwv] at HC3 HC4
  rw [hE] at HC5 HC6
  clear hhv hwv hE hcc hgx hg0
  go_upto_region 19 with fail
  have HXD : Hid (GsS w gm cm l gk ck gs wr.drew) := hide (HX.out.below (Below.refl _ _).drew)
  have hS0 := HCE.out _ HXD.out
  refine wp_region_U 57 (fun X => X.cell? ⟨gk, k, none⟩ = some (.int .u32 (g : Int)) ∧ X.cell? ⟨bb, bo + k, none⟩ = some (.int .u32 (g : Int)) ∧ X.cell? ⟨bb, bo, none⟩ = some (.int .u32 (g0 : Int))) rfl hS0 (fun hHeld => ?_)
  refine AnyU.take (i := 0) (v := ?v1) rfl (by kernel_rfl) (by kernel_rfl) (by kernel_rfl) (by kernel_rfl) (fun _ _ _ h => h) (Or.inl ⟨by rfl, ?hy1⟩) hHeld ?r1
  case hy1 => (intro w hSw; (try dsimp only at hSw); go_simp <;> with_reducible rfl)
  simp only [Act.put, List.setIfInBounds_toArray, List.set_cons_zero, List.set_cons_succ]
  refine AnyU.take (i := 1) (v := ?v2) rfl (by kernel_rfl) (by kernel_rfl) (by kernel_rfl) (by kernel_rfl) (fun _ _ _ h => h) (Or.inl ⟨by rfl, ?hy2⟩) hHeld ?r2
  case hy2 => (intro w hSw; (try dsimp only at hSw); go_simp <;> with_reducible rfl)
  simp only [Act.put, List.setIfInBounds_toArray, List.set_cons_zero, List.set_cons_succ]
  refine AnyU.take (i := 2) (v := ?v3) rfl (by kernel_rfl) (by kernel_rfl) (by kernel_rfl) (by kernel_rfl) (fun _ _ _ h => h) (Or.inl ⟨by rfl, ?hy3⟩) hHeld ?r3
  case hy3 => (intro w hSw; (try dsimp only at hSw); go_simp <;> with_reducible rfl)
  simp only [Act.put, List.setIfInBounds_toArray, List.set_cons_zero, List.set_cons_succ]
  refine AnyU.take (i := 3) (v := ?v4) rfl (by kernel_rfl) (by kernel_rfl) (by kernel_rfl) (by kernel_rfl) (fun _ _ _ h => h) (Or.inl ⟨by rfl, ?hy4⟩) hHeld ?r4
  case hy4 => (intro w hSw; (try dsimp only at hSw); go_simp <;> with_reducible rfl)
  simp only [Act.put, List.setIfInBounds_toArray, List.set_cons_zero, List.set_cons_succ]
  refine AnyU.take (i := 4) (v := ?v5) rfl (by kernel_rfl) (by kernel_rfl) (by kernel_rfl) (by kernel_rfl) (fun _ _ _ h => h) (Or.inl ⟨by rfl, ?hy5⟩) hHeld ?r5
  case hy5 => (intro w hSw; (try dsimp only at hSw); go_simp <;> with_reducible rfl)
  simp only [Act.put, List.setIfInBounds_toArray, List.set_cons_zero, List.set_cons_succ]
  refine AnyU.take (i := 5) (v := ?v6) rfl (by kernel_rfl) (by kernel_rfl) (by kernel_rfl) (by kernel_rfl) (fun _ _ _ h => h) (Or.inl ⟨by rfl, ?hy6⟩) hHeld ?r6
  case hy6 => (intro w hSw; (try dsimp only at hSw); go_simp <;> with_reducible rfl)
  simp only [Act.put, List.setIfInBounds_toArray, List.set_cons_zero, List.set_cons_succ]
  refine AnyU.take (i := 6) (v := ?v7) rfl (by kernel_rfl) (by kernel_rfl) (by kernel_rfl) (by kernel_rfl) (fun _ _ _ h => h) (Or.inl ⟨by rfl, ?hy7⟩) hHeld ?r7
  case hy7 => (intro w hSw; (try dsimp only at hSw); go_simp <;> with_reducible rfl)
  simp only [Act.put, List.setIfInBounds_toArray, List.set_cons_zero, List.set_cons_succ]
  refine AnyU.take (i := 7) (v := ?v8) rfl (by kernel_rfl) (by kernel_rfl) (by kernel_rfl) (by kernel_rfl) (fun _ _ _ h => h) (Or.inl ⟨by rfl, ?hy8⟩) hHeld ?r8
  case hy8 => (intro w hSw; (try dsimp only at hSw); go_simp <;> with_reducible rfl)
  simp only [Act.put, List.setIfInBounds_toArray, List.set_cons_zero, List.set_cons_succ]
  refine AnyU.take (i := 8) (v := ?v9) rfl (by kernel_rfl) (by kernel_rfl) (by kernel_rfl) (by kernel_rfl) (fun _ _ _ h => h) (Or.inl ⟨by rfl, ?hy9⟩) hHeld ?r9
  case hy9 => (intro w hSw; (try dsimp only at hSw); go_simp <;> with_reducible rfl)
  simp only [Act.put, List.setIfInBounds_toArray, List.set_cons_zero, List.set_cons_succ]
  refine AnyU.take (i := 9) (v := ?v10) rfl (by kernel_rfl) (by kernel_rfl) (by kernel_rfl) (by kernel_rfl) (fun _ _ _ h => h) (Or.inl ⟨by rfl, ?hy10⟩) hHeld ?r10
  case hy10 => (intro w hSw; (try dsimp only at hSw); go_simp <;> with_reducible rfl)
  simp only [Act.put, List.setIfInBounds_toArray, List.set_cons_zero, List.set_cons_succ]
  refine AnyU.take (i := 10) (v := ?v11) rfl (by kernel_rfl) (by kernel_rfl) (by kernel_rfl) (by kernel_rfl) (fun _ _ _ h => h) (Or.inl ⟨by rfl, ?hy11⟩) hHeld ?r11
  case hy11 => (intro w hSw; (try dsimp only at hSw); go_simp <;> with_reducible rfl)
  simp only [Act.put, List.setIfInBounds_toArray, List.set_cons_zero, List.set_cons_succ]
  refine AnyU.take (i := 11) (v := ?v12) rfl (by kernel_rfl) (by kernel_rfl) (by kernel_rfl) (by kernel_rfl) (fun _ _ _ h => h) (Or.inl ⟨by rfl, ?hy12⟩) hHeld ?r12
  case hy12 => (intro w hSw; (try dsimp only at hSw); go_simp <;> with_reducible rfl)
  simp only [Act.put, List.setIfInBounds_toArray, List.set_cons_zero, List.set_cons_succ]
  refine AnyU.take (i := 12) (v := ?v13) rfl (by kernel_rfl) (by kernel_rfl) (by kernel_rfl) (by kernel_rfl) (fun _ _ _ h => h) (Or.inl ⟨by rfl, ?hy13⟩) hHeld ?r13
  case hy13 => (intro w hSw; (try dsimp only at hSw); go_simp <;> with_reducible rfl)
  simp only [Act.put, List.setIfInBounds_toArray, List.set_cons_zero, List.set_cons_succ]
  refine AnyU.take (i := 13) (v := ?v14) rfl (by kernel_rfl) (by kernel_rfl) (by kernel_rfl) (by kernel_rfl) (fun _ _ _ h => h) (Or.inl ⟨by rfl, ?hy14⟩) hHeld ?r14
  case hy14 => (intro w hSw; (try dsimp only at hSw); go_simp <;> with_reducible rfl)
  simp only [Act.put, List.setIfInBounds_toArray, List.set_cons_zero, List.set_cons_succ]
  refine AnyU.take (i := 14) (v := ?v15) rfl (by kernel_rfl) (by kernel_rfl) (by kernel_rfl) (by kernel_rfl) (fun _ _ _ h => h) (Or.inl ⟨by rfl, ?hy15⟩) hHeld ?r15
  case hy15 => (intro w hSw; (try dsimp only at hSw); go_simp <;> with_reducible rfl)
  simp only [Act.put, List.setIfInBounds_toArray, List.set_cons_zero, List.set_cons_succ]
  refine AnyU.take (i := 16) (v := ?v16) rfl (by kernel_rfl) (by kernel_rfl) (by kernel_rfl) (by kernel_rfl) (fun _ _ _ h => h) (Or.inl ⟨by rfl, ?hy16⟩) hHeld ?r16
  case hy16 => (intro w hSw; (try dsimp only at hSw); go_simp <;> with_reducible rfl)
  simp only [Act.put, List.setIfInBounds_toArray, List.set_cons_zero, List.set_cons_succ]
  refine AnyU.take (i := 17) (v := ?v17) rfl (by kernel_rfl) (by kernel_rfl) (by kernel_rfl) (by kernel_rfl) (fun _ _ _ h => h) (Or.inl ⟨by rfl, ?hy17⟩) hHeld ?r17
  case hy17 => (intro w hSw; (try dsimp only at hSw); go_simp <;> with_reducible rfl)
  simp only [Act.put, List.setIfInBounds_toArray, List.set_cons_zero, List.set_cons_succ]
  refine AnyU.take (i := 18) (v := ?v18) rfl (by kernel_rfl) (by kernel_rfl) (by kernel_rfl) (by kernel_rfl) (fun _ _ _ h => h) (Or.inl ⟨by rfl, ?hy18⟩) hHeld ?r18
  case hy18 => (intro w hSw; (try dsimp only at hSw); go_simp <;> with_reducible rfl)
  simp only [Act.put, List.setIfInBounds_toArray, List.set_cons_zero, List.set_cons_succ]
  refine AnyU.take (i := 19) (v := ?v19) rfl (by kernel_rfl) (by kernel_rfl) (by kernel_rfl) (by kernel_rfl) (fun _ _ _ h => h) (Or.inl ⟨by rfl, ?hy19⟩) hHeld ?r19
  case hy19 => (intro w hSw; (try dsimp only at hSw); go_simp <;> with_reducible rfl)
  simp only [Act.put, List.setIfInBounds_toArray, List.set_cons_zero, List.set_cons_succ]
  refine AnyU.take (i := 20) (v := ?v20) rfl (by kernel_rfl) (by kernel_rfl) (by kernel_rfl) (by kernel_rfl) (fun _ _ _ h => h) (Or.inl ⟨by rfl, ?hy20⟩) hHeld ?r20
  case hy20 => (intro w hSw; (try dsimp only at hSw); go_simp <;> with_reducible rfl)
  simp only [Act.put, List.setIfInBounds_toArray, List.set_cons_zero, List.set_cons_succ]
  refine AnyU.next (js := [15]) (by kernel_rfl) (by simp) (NextU.cons rfl (fun K hK => ?_) NextU.nil)
  go_simp
  refine (HC1.out _).mono ?_
  rintro e w7 ⟨rfl, rfl⟩
  go_wp2_with fail
  refine hK.out _ _ (fun _ => hS0) (fun hHeld => ?_)
  replace hHeld := hHeld (by decide)
  try simp only [Act.put, List.setIfInBounds_toArray, List.set_cons_zero, List.set_cons_succ]
  refine AnyU.next (js := [21]) (by kernel_rfl) (by simp) (NextU.cons rfl (fun K hK => ?_) NextU.nil)
  go_simp
  refine (HC2.out _).mono ?_
  rintro e w7 ⟨rfl, rfl⟩
  go_wp2_with fail
  refine hK.out _ _ (fun _ => hS0) (fun hHeld => ?_)
  replace hHeld := hHeld (by decide)
  try simp only [Act.put, List.setIfInBounds_toArray, List.set_cons_zero, List.set_cons_succ]
  refine AnyU.take (i := 22) (v := ?v21) rfl (by kernel_rfl) (by kernel_rfl) (by kernel_rfl) (by kernel_rfl) (fun _ _ _ h => h) (Or.inl ⟨by rfl, ?hy21⟩) hHeld ?r21
  case hy21 => (intro w hSw; (try dsimp only at hSw); go_simp <;> with_reducible rfl)
  simp only [Act.put, List.setIfInBounds_toArray, List.set_cons_zero, List.set_cons_succ]
  refine AnyU.take (i := 23) (v := ?v22) rfl (by kernel_rfl) (by kernel_rfl) (by kernel_rfl) (by kernel_rfl) (fun _ _ _ h => h) (Or.inl ⟨by rfl, ?hy22⟩) hHeld ?r22
  case hy22 => (intro w hSw; (try dsimp only at hSw); go_simp <;> with_reducible rfl)
  simp only [Act.put, List.setIfInBounds_toArray, List.set_cons_zero, List.set_cons_succ]
  refine AnyU.take (i := 24) (v := ?v23) rfl (by kernel_rfl) (by kernel_rfl) (by kernel_rfl) (by kernel_rfl) (fun _ _ _ h => h) (Or.inl ⟨by rfl, ?hy23⟩) hHeld ?r23
  case hy23 => (intro w hSw; (try dsimp only at hSw); go_simp <;> with_reducible rfl)
  simp only [Act.put, List.setIfInBounds_toArray, List.set_cons_zero, List.set_cons_succ]
  refine AnyU.take (i := 25) (v := ?v24) rfl (by kernel_rfl) (by kernel_rfl) (by kernel_rfl) (by kernel_rfl) (fun _ _ _ h => h) (Or.inl ⟨by rfl, ?hy24⟩) hHeld ?r24
  case hy24 => (intro w hSw; (try dsimp only at hSw); go_simp <;> with_reducible rfl)
  simp only [Act.put, List.setIfInBounds_toArray, List.set_cons_zero, List.set_cons_succ]
  refine AnyU.take (i := 26) (v := ?v25) rfl (by kernel_rfl) (by kernel_rfl) (by kernel_rfl) (by kernel_rfl) (fun _ _ _ h => h) (Or.inl ⟨by rfl, ?hy25⟩) hHeld ?r25
  case hy25 => (intro w hSw; (try dsimp only at hSw); go_simp <;> with_reducible rfl)
  simp only [Act.put, List.setIfInBounds_toArray, List.set_cons_zero, List.set_cons_succ]
  refine AnyU.take (i := 27) (v := ?v26) rfl (by kernel_rfl) (by kernel_rfl) (by kernel_rfl) (by kernel_rfl) (fun _ _ _ h => h) (Or.inl ⟨by rfl, ?hy26⟩) hHeld ?r26
  case hy26 => (intro w hSw; (try dsimp only at hSw); go_simp <;> with_reducible rfl)
  simp only [Act.put, List.setIfInBounds_toArray, List.set_cons_zero, List.set_cons_succ]
  refine AnyU.take (i := 28) (v := ?v27) rfl (by kernel_rfl) (by kernel_rfl) (by kernel_rfl) (by kernel_rfl) (fun _ _ _ h => h) (Or.inl ⟨by rfl, ?hy27⟩) hHeld ?r27
  case hy27 => (intro w hSw; (try dsimp only at hSw); go_simp <;> with_reducible rfl)
  simp only [Act.put, List.setIfInBounds_toArray, List.set_cons_zero, List.set_cons_succ]
  refine AnyU.take (i := 29) (v := ?v28) rfl (by kernel_rfl) (by kernel_rfl) (by kernel_rfl) (by kernel_rfl) (fun _ _ _ h => h) (Or.inl ⟨by rfl, ?hy28⟩) hHeld ?r28
  case hy28 => (intro w hSw; (try dsimp only at hSw); go_simp <;> with_reducible rfl)
  simp only [Act.put, List.setIfInBounds_toArray, List.set_cons_zero, List.set_cons_succ]
  refine AnyU.take (i := 30) (v := ?v29) rfl (by kernel_rfl) (by kernel_rfl) (by kernel_rfl) (by kernel_rfl) (fun _ _ _ h => h) (Or.inl ⟨by rfl, ?hy29⟩) hHeld ?r29
  case hy29 => (intro w hSw; (try dsimp only at hSw); go_simp <;> with_reducible rfl)
  simp only [Act.put, List.setIfInBounds_toArray, List.set_cons_zero, List.set_cons_succ]
  refine AnyU.take (i := 31) (v := ?v30) rfl (by kernel_rfl) (by kernel_rfl) (by kernel_rfl) (by kernel_rfl) (fun _ _ _ h => h) (Or.inl ⟨by rfl, ?hy30⟩) hHeld ?r30
  case hy30 => (intro w hSw; (try dsimp only at hSw); go_simp <;> with_reducible rfl)
  simp only [Act.put, List.setIfInBounds_toArray, List.set_cons_zero, List.set_cons_succ]
  refine AnyU.take (i := 33) (v := ?v31) rfl (by kernel_rfl) (by kernel_rfl) (by kernel_rfl) (by kernel_rfl) (fun _ _ _ h => h) (Or.inl ⟨by rfl, ?hy31⟩) hHeld ?r31
  case hy31 => (intro w hSw; (try dsimp only at hSw); go_simp <;> with_reducible rfl)
  simp only [Act.put, List.setIfInBounds_toArray, List.set_cons_zero, List.set_cons_succ]
  refine AnyU.take (i := 34) (v := ?v32) rfl (by kernel_rfl) (by kernel_rfl) (by kernel_rfl) (by kernel_rfl) (fun _ _ _ h => h) (Or.inl ⟨by rfl, ?hy32⟩) hHeld ?r32
  case hy32 => (intro w hSw; (try dsimp only at hSw); go_simp <;> with_reducible rfl)
  simp only [Act.put, List.setIfInBounds_toArray, List.set_cons_zero, List.set_cons_succ]
  refine AnyU.take (i := 35) (v := ?v33) rfl (by kernel_rfl) (by kernel_rfl) (by kernel_rfl) (by kernel_rfl) (fun _ _ _ h => h) (Or.inl ⟨by rfl, ?hy33⟩) hHeld ?r33
  case hy33 => (intro w hSw; (try dsimp only at hSw); go_simp <;> with_reducible rfl)
  simp only [Act.put, List.setIfInBounds_toArray, List.set_cons_zero, List.set_cons_succ]
  refine AnyU.take (i := 36) (v := ?v34) rfl (by kernel_rfl) (by kernel_rfl) (by kernel_rfl) (by kernel_rfl) (fun _ _ _ h => h) (Or.inl ⟨by rfl, ?hy34⟩) hHeld ?r34
  case hy34 => (intro w hSw; (try dsimp only at hSw); go_simp <;> with_reducible rfl)
  simp only [Act.put, List.setIfInBounds_toArray, List.set_cons_zero, List.set_cons_succ]
  refine AnyU.take (i := 37) (v := ?v35) rfl (by kernel_rfl) (by kernel_rfl) (by kernel_rfl) (by kernel_rfl) (fun _ _ _ h => h) (Or.inl ⟨by rfl, ?hy35⟩) hHeld ?r35
  case hy35 => (intro w hSw; (try dsimp only at hSw); go_simp <;> with_reducible rfl)
  simp only [Act.put, List.setIfInBounds_toArray, List.set_cons_zero, List.set_cons_succ]
  refine AnyU.take (i := 38) (v := ?v36) rfl (by kernel_rfl) (by kernel_rfl) (by kernel_rfl) (by kernel_rfl) (fun _ _ _ h => h) (Or.inl ⟨by rfl, ?hy36⟩) hHeld ?r36
  case hy36 => (intro w hSw; (try dsimp only at hSw); go_simp <;> with_reducible rfl)
  simp only [Act.put, List.setIfInBounds_toArray, List.set_cons_zero, List.set_cons_succ]
  refine AnyU.take (i := 39) (v := ?v37) rfl (by kernel_rfl) (by kernel_rfl) (by kernel_rfl) (by kernel_rfl) (fun _ _ _ h => h) (Or.inl ⟨by rfl, ?hy37⟩) hHeld ?r37
  case hy37 => (intro w hSw; (try dsimp only at hSw); go_simp <;> with_reducible rfl)
  simp only [Act.put, List.setIfInBounds_toArray, List.set_cons_zero, List.set_cons_succ]
  refine AnyU.next (js := [32]) (by kernel_rfl) (by simp) (NextU.cons rfl (fun K hK => ?_) NextU.nil)
  go_simp
  refine (HC3.out _).mono ?_
  rintro e w7 ⟨rfl, rfl⟩
  go_wp2_with fail
  refine hK.out _ _ (fun _ => hS0) (fun hHeld => ?_)
  replace hHeld := hHeld (by decide)
  try simp only [Act.put, List.setIfInBounds_toArray, List.set_cons_zero, List.set_cons_succ]
  refine AnyU.next (js := [40]) (by kernel_rfl) (by simp) (NextU.cons rfl (fun K hK => ?_) NextU.nil)
  go_simp
  refine (HC4.out _).mono ?_
  rintro e w8 ⟨rfl, hb8⟩
  have HX8 := hide (HXD.out.below hb8)
  have hS8 := HCE.out _ HX8.out
  clear hb8 hS0
  go_wp2_with fail
  refine hK.out _ _ (fun _ => hS8) (fun hHeld => ?_)
  replace hHeld := hHeld (by decide)
  try simp only [Act.put, List.setIfInBounds_toArray, List.set_cons_zero, List.set_cons_succ]
  refine AnyU.take (i := 41) (v := ?v38) rfl (by kernel_rfl) (by kernel_rfl) (by kernel_rfl) (by kernel_rfl) (fun _ _ _ h => h) (Or.inl ⟨by rfl, ?hy38⟩) hHeld ?r38
  case hy38 => (intro w hSw; (try dsimp only at hSw); go_simp <;> with_reducible rfl)
  simp only [Act.put, List.setIfInBounds_toArray, List.set_cons_zero, List.set_cons_succ]
  refine AnyU.take (i := 42) (v := ?v39) rfl (by kernel_rfl) (by kernel_rfl) (by kernel_rfl) (by kernel_rfl) (fun _ _ _ h => h) (Or.inl ⟨by rfl, ?hy39⟩) hHeld ?r39
  case hy39 => (intro w hSw; (try dsimp only at hSw); go_simp <;> with_reducible rfl)
  simp only [Act.put, List.setIfInBounds_toArray, List.set_cons_zero, List.set_cons_succ]
  refine AnyU.take (i := 43) (v := ?v40) rfl (by kernel_rfl) (by kernel_rfl) (by kernel_rfl) (by kernel_rfl) (fun _ _ _ h => h) (Or.inl ⟨by rfl, ?hy40⟩) hHeld ?r40
  case hy40 => (intro w hSw; (try dsimp only at hSw); go_simp <;> with_reducible rfl)
  simp only [Act.put, List.setIfInBounds_toArray, List.set_cons_zero, List.set_cons_succ]
  refine AnyU.take (i := 44) (v := ?v41) rfl (by kernel_rfl) (by kernel_rfl) (by kernel_rfl) (by kernel_rfl) (fun _ _ _ h => h) (Or.inl ⟨by rfl, ?hy41⟩) hHeld ?r41
  case hy41 => (intro w hSw; (try dsimp only at hSw); go_simp <;> with_reducible rfl)
  simp only [Act.put, List.setIfInBounds_toArray, List.set_cons_zero, List.set_cons_succ]
  refine AnyU.take (i := 45) (v := ?v42) rfl (by kernel_rfl) (by kernel_rfl) (by kernel_rfl) (by kernel_rfl) (fun _ _ _ h => h) (Or.inl ⟨by rfl, ?hy42⟩) hHeld ?r42
  case hy42 => (intro w hSw; (try dsimp only at hSw); go_simp <;> with_reducible rfl)
  simp only [Act.put, List.setIfInBounds_toArray, List.set_cons_zero, List.set_cons_succ]
  refine AnyU.take (i := 46) (v := ?v43) rfl (by kernel_rfl) (by kernel_rfl) (by kernel_rfl) (by kernel_rfl) (fun _ _ _ h => h) (Or.inl ⟨by rfl, ?hy43⟩) hHeld ?r43
  case hy43 => (intro w hSw; (try dsimp only at hSw); go_simp <;> with_reducible rfl)
  simp only [Act.put, List.setIfInBounds_toArray, List.set_cons_zero, List.set_cons_succ]
  refine AnyU.take (i := 47) (v := ?v44) rfl (by kernel_rfl) (by kernel_rfl) (by kernel_rfl) (by kernel_rfl) (fun _ _ _ h => h) (Or.inl ⟨by rfl, ?hy44⟩) hHeld ?r44
  case hy44 => (intro w hSw; (try dsimp only at hSw); go_simp <;> with_reducible rfl)
  simp only [Act.put, List.setIfInBounds_toArray, List.set_cons_zero, List.set_cons_succ]
  refine AnyU.take (i := 49) (v := ?v45) rfl (by kernel_rfl) (by kernel_rfl) (by kernel_rfl) (by kernel_rfl) (fun _ _ _ h => h) (Or.inl ⟨by rfl, ?hy45⟩) hHeld ?r45
  case hy45 => (intro w hSw; (try dsimp only at hSw); go_simp <;> with_reducible rfl)
  simp only [Act.put, List.setIfInBounds_toArray, List.set_cons_zero, List.set_cons_succ]
  refine AnyU.take (i := 50) (v := ?v46) rfl (by kernel_rfl) (by kernel_rfl) (by kernel_rfl) (by kernel_rfl) (fun _ _ _ h => h) (Or.inl ⟨by rfl, ?hy46⟩) hHeld ?r46
  case hy46 => (intro w hSw; (try dsimp only at hSw); go_simp <;> with_reducible rfl)
  simp only [Act.put, List.setIfInBounds_toArray, List.set_cons_zero, List.set_cons_succ]
  refine AnyU.take (i := 51) (v := ?v47) rfl (by kernel_rfl) (by kernel_rfl) (by kernel_rfl) (by kernel_rfl) (fun _ _ _ h => h) (Or.inl ⟨by rfl, ?hy47⟩) hHeld ?r47
  case hy47 => (intro w hSw; (try dsimp only at hSw); go_simp <;> with_reducible rfl)
  simp only [Act.put, List.setIfInBounds_toArray, List.set_cons_zero, List.set_cons_succ]
  refine AnyU.take (i := 52) (v := ?v48) rfl (by kernel_rfl) (by kernel_rfl) (by kernel_rfl) (by kernel_rfl) (fun _ _ _ h => h) (Or.inl ⟨by rfl, ?hy48⟩) hHeld ?r48
  case hy48 => (intro w hSw; (try dsimp only at hSw); go_simp <;> with_reducible rfl)
  simp only [Act.put, List.setIfInBounds_toArray, List.set_cons_zero, List.set_cons_succ]
  refine AnyU.next (js := [48]) (by kernel_rfl) (by simp) (NextU.cons rfl (fun K hK => ?_) NextU.nil)
  go_simp
  refine (HC5.out _).mono ?_
  rintro e w9 ⟨rfl, hb9⟩
  have HX9 := hide (HX8.out.below hb9)
  have hS9 := HCE.out _ HX9.out
  clear hb9 hS8
  go_wp2_with fail
  refine hK.out _ _ (fun _ => hS9) (fun hHeld => ?_)
  replace hHeld := hHeld (by decide)
  try simp only [Act.put, List.setIfInBounds_toArray, List.set_cons_zero, List.set_cons_succ]
  refine AnyU.next (js := [53]) (by kernel_rfl) (by simp) (NextU.cons rfl (fun K hK => ?_) NextU.nil)
  go_simp
  refine (HC6.out _).mono ?_
  rintro e wa ⟨Ae, ce, rfl, _, hba⟩
  have HXa := hide (HX9.out.below hba)
  have hSa := HCE.out _ HXa.out
  clear hba hS9
  go_wp2_with fail
  refine hK.out _ _ (fun _ => hSa) (fun hHeld => ?_)
  replace hHeld := hHeld (by decide)
  try simp only [Act.put, List.setIfInBounds_toArray, List.set_cons_zero, List.set_cons_succ]
  refine AnyU.take (i := 54) (v := ?v49) rfl (by kernel_rfl) (by kernel_rfl) (by kernel_rfl) (by kernel_rfl) (fun _ _ _ h => h) (Or.inl ⟨by rfl, ?hy49⟩) hHeld ?r49
  case hy49 => (intro w hSw; (try dsimp only at hSw); go_simp <;> with_reducible rfl)
  simp only [Act.put, List.setIfInBounds_toArray, List.set_cons_zero, List.set_cons_succ]
  refine AnyU.take (i := 55) (v := ?v50) rfl (by kernel_rfl) (by kernel_rfl) (by kernel_rfl) (by kernel_rfl) (fun _ _ _ h => h) (Or.inl ⟨by rfl, ?hy50⟩) hHeld ?r50
  case hy50 => (intro w hSw; (try dsimp only at hSw); go_simp <;> with_reducible rfl)
  simp only [Act.put, List.setIfInBounds_toArray, List.set_cons_zero, List.set_cons_succ]
  refine AnyU.take (i := 56) (v := ?v51) rfl (by kernel_rfl) (by kernel_rfl) (by kernel_rfl) (by kernel_rfl) (fun _ _ _ h => h) (Or.inl ⟨by rfl, ?hy51⟩) hHeld ?r51
  case hy51 => (intro w hSw; (try dsimp only at hSw); go_simp <;> with_reducible rfl)
  simp only [Act.put, List.setIfInBounds_toArray, List.set_cons_zero, List.set_cons_succ]
  clear hHeld hK K hSa
  refine AnyU.over (by kernel_rfl) ?_ _
  go_wp2_with fail
  go_roundw
  case rel => exact ⟨k + 1, by omega, by go_num, HXa.out⟩
  case measure => simp [intOf]; omega
end Go.Proofs.YtffpiaipdeebcaaDoor
