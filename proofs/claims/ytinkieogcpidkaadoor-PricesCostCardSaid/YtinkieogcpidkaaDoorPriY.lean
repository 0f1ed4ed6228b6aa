/- The walk of the law PricesCost. -/
import Derived.Test.YtinkieogcpidkaaDoorPriL
namespace Go.Proofs.YtinkieogcpidkaaDoor
open Go.RowKit Go.Maps Go.Shelf
open Go.ChangeMaps Go.WideMaps

/-- What the law has lent. -/
structure CoS (w : World) (gm cm : Nat) (p : List Int) (go co : Nat) (l : List Offer) (W : World) : Prop where
  bel : Below w.heap.size w W
  m : W.ownsRow w.heap.size 2 1 (.slice (some ⟨gm, 0, none⟩) (p.length + 1) cm) (p.length + 1) ((p ++ [4242]).map intV)
  o : W.ownsRow w.heap.size 59 2 (.slice (some ⟨go, 0, none⟩) (l.length + 1) co) (l.length + 1) (cells2 offV (l ++ [(77, 0)]))
section
variable {w W W' : World} {gm cm : Nat} {p : List Int} {go co : Nat} {l : List Offer}
theorem CoS.below (h : CoS w gm cm p go co l W) (hb : Below W.heap.size W W') : CoS w gm cm p go co l W' :=
  ⟨h.bel.trans (hb.mono h.bel.size), own_below h.m hb (Nat.le_refl _), own_below h.o hb (Nat.le_refl _)⟩
theorem CoS.ints (h : CoS w gm cm p go co l W) : One intV W W.heap.size (some ⟨gm, 0, none⟩) (p ++ [4242]) ∧ One intV W W.heap.size (some ⟨gm, 0, none⟩) p := by
  have h1 := Reads.of_own h.m
  have h2 := h1.front (k := p.length) (by omega)
  refine ⟨?_, ?_⟩
  · unfold One
    rw [List.length_append]
    exact h1
  · unfold One
    rw [Nat.mul_one, List.map_append, List.take_left' (by simp)] at h2
    exact h2
theorem CoS.offs (h : CoS w gm cm p go co l W) : Offs W W.heap.size (some ⟨go, 0, none⟩) (l ++ [(77, 0)]) ∧ Offs W W.heap.size (some ⟨go, 0, none⟩) l := by
  have h1 : Offs W W.heap.size (some ⟨go, 0, none⟩) (l ++ [(77, 0)]) := Two.of_own (n := l.length + 1) h.o (by simp)
  have h2 := Two.front h1 (k := l.length) (by simp)
  rw [List.take_left' rfl] at h2
  exact ⟨h1, h2⟩
end
set_option maxRecDepth 100000 in
set_option maxHeartbeats 8000000 in
theorem costLaw_any (P : Option Addr) (pc : Nat) (p : List Int) (A : Option Addr) (c : Nat) (l : List Offer) (g : Nat) (hg : g < 4294967296) (w : World) (hT : TabW w)
    (hp : One intV w w.heap.size P p) (ho : Offs w w.heap.size A l) (hw : OWide l) :
    Calls Tryd.prog 6 #[.slice P p.length pc, .slice A l.length c, .int .u32 (g : Int)] w (ValPost (.bool true) w) := by
  have HT := hide hT
  have HP := hide hp
  have HA := hide ho
  have HW := hide hw
  have HWK := hide (fun W (hb : Below w.heap.size w W) => works_any W (hT.below hb))
  clear hT hp ho hw
  go_enter Tryd.func6, Tryd.ntmps6
  by_cases h1 : 100 < p.length
  · have hpi : (100 : Int) < (p.length : Int) := by omega
    go_wp2_with (go_at_call 8; refine (HWK.out w (Below.refl _ _)).mono ?_; rintro e w1 ⟨rfl, hb1⟩; have HB1 := hide hb1; clear hb1)
    go_ret
    exact ⟨rfl, HB1.out⟩
  have hpi : ¬ ((100 : Int) < (p.length : Int)) := by omega
  by_cases h2 : 60 < l.length
  · have hli : (60 : Int) < (l.length : Int) := by omega
    go_wp2_with (go_at_call 8; refine (HWK.out w (Below.refl _ _)).mono ?_; rintro e w1 ⟨rfl, hb1⟩; have HB1 := hide hb1; clear hb1)
    go_ret
    exact ⟨rfl, HB1.out⟩
  have hli : ¬ ((60 : Int) < (l.length : Int)) := by omega
  have hpl : p.length ≤ 1000000 := by omega
  have hll : l.length ≤ 1000000 := by omega
  have HLE := hide (lent_any P pc p w HP.out hpl)
  unfold LentP at HLE
  go_upto_region 4 with (go_at_call 10; refine (HLE.out).mono ?_; rintro e w1 ⟨gm, cm, rfl, hm, hb1, hcm⟩; have HB1 := hide hb1; have HM := hide hm; have HCM := hide hcm; clear hb1 hm hcm)
  have HO0 : Hid ((w1.alloc (.cells #[] 59)).ownsRow w1.heap.size 59 2 (.slice (some ⟨w1.heap.size, 0, none⟩) 0 0) 0 []) := hide (World.ownsRow_made w1 #[] 0 (Nat.le_refl _) (by decide) rfl)
  have HB0 : Hid (Below w1.heap.size w1 (w1.alloc (.cells #[] 59))) := hide ((Below.refl _ _).alloc (Nat.le_refl _) _)
  have G1 := hide (off_one l)
  have G5 : Hid (0 + l.length ≤ maxLen) := hide (by unfold maxLen; omega)
  have G6 : Hid ((0 + l.length) * 16 ≤ 140737488355328) := hide (by omega)
  have G2 := hide (off_one [(77, 0)])
  have G7 : Hid (l.length + 1 ≤ maxLen) := hide (by unfold maxLen; omega)
  have G8 : Hid ((l.length + 1) * 16 ≤ 140737488355328) := hide (by omega)
  have HA1 := hide (HA.out.up HB1.out)
  go_upto_region 5 with (first | (at_builtin; refine wpList_append_any rfl (.tmp 24) (.tmp 25) 55 rfl w1.heap.size 59 _ 2 16 infoO Tryd.underlying55 rfl (by decide) _ 0 [] rfl HO0.out w1.heap.size A l.length c (cells2 offV l) rfl (HA1.out.below HB0.out) G1.out G5.out G6.out HB0.out.size ?_; intro v1 w2 hown1 hg1 _; rw [Nat.zero_add, List.nil_append] at hown1; obtain ⟨A1, c1, hv1, _⟩ := own_sh hown1; subst hv1; have HO1 := hide hown1; have HB2 : Hid (Below w1.heap.size w1 w2) := hide (HB0.out.grown hg1 HB0.out.size (fun j hj => by have := Option.some.inj (show some w1.heap.size = some j from hj); omega)); clear hown1 hg1) | (at_builtin; refine wpList_append_any rfl (.tmp 26) (.tmp 28) 55 rfl w1.heap.size 59 _ 2 16 infoO Tryd.underlying55 rfl (by decide) _ l.length (cells2 offV l) rfl (own_below HO1.out ((Below.refl _ _).alloc (Nat.le_refl _) _) (Nat.le_refl _)) _ (some ⟨w2.heap.size, 0, none⟩) 1 1 (cells2 offV [(77, 0)]) rfl (reads_row (xs := [.int .u32 77, .int .i64 0]) (heap_alloc_new w2 _) rfl) G2.out G7.out G8.out (by have := HB2.out.size; simp; omega) ?_; intro v2 w3 hown2 hg2 _; obtain ⟨go, co, hv2, _⟩ := hown2.form (by omega); subst hv2; have HB3 : Hid (Below w1.heap.size w1 w3) := hide ((HB2.out.alloc HB2.out.size _).grown hg2 (by have := HB2.out.size; simp; omega) (fun j hj => (HO1.out.lt j hj).1)); have hcap : (l.length : Int) ≤ (co : Int) := (by obtain ⟨_, _, e, hc⟩ := own_sh hown2; injection e with _ _ e; omega); have HCO : Hid (l.length + 1 ≤ co) := hide (by obtain ⟨_, _, e, hc⟩ := own_sh hown2; injection e with _ _ e; omega); have HO2 : Hid (w3.ownsRow w1.heap.size 59 2 (.slice (some ⟨go, 0, none⟩) (l.length + 1) co) (l.length + 1) (cells2 offV (l ++ [(77, 0)]))) := hide (by rw [cells2_append]; exact hown2); clear hown2 hg2))
  have HS3 : Hid (CoS w gm cm p go co l w3) := hide ⟨HB1.out.trans (HB3.out.mono HB1.out.size), own_below HM.out HB3.out (Nat.le_refl _), own_base HO2.out HB1.out.size⟩
  have hwl : wrap64 ((l.length : Int) + 1) = ((l.length + 1 : Nat) : Int) := by unfold wrap64; omega
  have hci : (l.length : Int) + 1 ≤ (co : Int) := by have := HCO.out; omega
  clear HO0 HB0 HA1 HO1 HB2 HB3 HO2 HM HB1 HLE hcap G1 G2 G5 G6 G7 G8
  obtain ⟨⟨gv, ga⟩, hgg⟩ : ∃ r, gainC (cntP p) g l = r := ⟨_, rfl⟩
  obtain ⟨cv, hcv⟩ : ∃ r, costC (cntP p) g = r := ⟨_, rfl⟩
  have HG1 := hide (fun W (h : CoS w gm cm p go co l W) => gainP_any (some ⟨go, 0, none⟩) co l (some ⟨gm, 0, none⟩) cm p g hg W (HT.out.below h.bel) h.offs.2 hll HW.out h.ints.2 hpl (fun e => by cases e))
  have HG2 := hide (fun W (h : CoS w gm cm p go co l W) => refgain_any A c l P pc p g hg W (HA.out.up h.bel) hll HW.out (HP.out.up h.bel) hpl)
  have HC1 := hide (fun W (h : CoS w gm cm p go co l W) => costP_any (some ⟨gm, 0, none⟩) cm p g hg W (HT.out.below h.bel) h.ints.2 hpl (fun e => by cases e))
  have HC2 := hide (fun W (h : CoS w gm cm p go co l W) => refcost_any P pc p g hg W (HP.out.up h.bel) hpl)
  have HK := hide (fun W (h : CoS w gm cm p go co l W) => kept_any gm cm P pc p W h.ints.1 (HP.out.up h.bel) HCM.out hpl)
  have HSO := hide (fun W (h : CoS w gm cm p go co l W) => sameOffers_any (some ⟨go, 0, none⟩) co l A c l W h.offs.2 (HA.out.up h.bel) hll)
  rw [hgg] at HG1 HG2
  rw [hcv] at HC1 HC2
  simp only [decide_true] at HSO
  clear hgg hcv
  go_wp2_with (first
    | (go_at_call 25; refine (HG1.out _ HS3.out).mono ?_; rintro e w4 ⟨rfl, hb4⟩; have HS3 := hide (HS3.out.below hb4); clear hb4)
    | (go_at_call 26; refine (HG2.out _ HS3.out).mono ?_; rintro e w4 ⟨rfl, hb4⟩; have HS3 := hide (HS3.out.below hb4); clear hb4)
    | (go_at_call 27; refine (HC1.out _ HS3.out).mono ?_; rintro e w4 ⟨rfl, hb4⟩; have HS3 := hide (HS3.out.below hb4); clear hb4)
    | (go_at_call 28; refine (HC2.out _ HS3.out).mono ?_; rintro e w4 ⟨rfl, hb4⟩; have HS3 := hide (HS3.out.below hb4); clear hb4)
    | (go_at_call 17; refine (HK.out _ HS3.out).mono ?_; rintro e w4 ⟨rfl, hb4⟩; have HS3 := hide (HS3.out.below hb4); clear hb4)
    | (go_at_call 29; refine (HSO.out _ HS3.out).mono ?_; rintro e w4 ⟨rfl, hb4⟩; have HS3 := hide (HS3.out.below hb4); clear hb4; have z0 := (HS3.out.o.cellAt (l.length * 2) (by omega)).trans (cells2_at (l ++ [(77, 0)]) l.length (77, 0) (by simp)).1; simp only [offV] at z0)
    | (go_at_call 8; refine (HWK.out _ HS3.out.bel).mono ?_; rintro e w4 ⟨rfl, hb4⟩; have HS3 := hide (HS3.out.below hb4); clear hb4))
  go_ret
  exact ⟨rfl, HS3.out.bel⟩
end Go.Proofs.YtinkieogcpidkaaDoor
