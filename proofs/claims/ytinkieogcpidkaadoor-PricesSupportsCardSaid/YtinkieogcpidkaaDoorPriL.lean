/- The walks of the law's lent and kept. -/
import Derived.Test.YtinkieogcpidkaaDoorPriX
namespace Go.Proofs.YtinkieogcpidkaaDoor
open Go.RowKit Go.Maps Go.Shelf
open Go.ChangeMaps Go.WideMaps

/-- What lent answers: a row of the call's own, with the mark behind. -/
def LentP (p : List Int) (w : World) (e : Ending) (w' : World) : Prop :=
  ∃ g c, e = .returned (.slice (some ⟨g, 0, none⟩) p.length c) ∧ w'.ownsRow w.heap.size 2 1 (.slice (some ⟨g, 0, none⟩) (p.length + 1) c) (p.length + 1) ((p ++ [4242]).map intV) ∧ Below w.heap.size w w' ∧ p.length + 1 ≤ c
theorem ints_one (p : List Int) : ∀ u ∈ p.map intV, u.oneCell' = true := fun u hu => by obtain ⟨x, _, rfl⟩ := List.mem_map.1 hu; rfl
set_option maxRecDepth 100000 in
set_option maxHeartbeats 4000000 in
theorem lent_any (P : Option Addr) (pc : Nat) (p : List Int) (w : World) (hp : One intV w w.heap.size P p) (hpl : p.length ≤ 1000000) :
    Calls Tryd.prog 10 #[.slice P p.length pc] w (LentP p w) := by
  have HA := hide hp
  have HO0 : Hid ((w.alloc (.cells #[] 2)).ownsRow w.heap.size 2 1 (.slice (some ⟨w.heap.size, 0, none⟩) 0 0) 0 []) := hide (World.ownsRow_made w #[] 0 (Nat.le_refl _) (by decide) rfl)
  have HB0 : Hid (Below w.heap.size w (w.alloc (.cells #[] 2))) := hide ((Below.refl _ _).alloc (Nat.le_refl _) _)
  have G1 := hide (ints_one p)
  have G5 : Hid (0 + p.length ≤ maxLen) := hide (by unfold maxLen; omega)
  have G6 : Hid ((0 + p.length) * 8 ≤ 140737488355328) := hide (by omega)
  have G2 := hide (ints_one [4242])
  have G7 : Hid (p.length + 1 ≤ maxLen) := hide (by unfold maxLen; omega)
  have G8 : Hid ((p.length + 1) * 8 ≤ 140737488355328) := hide (by omega)
  clear hp
  go_enter Tryd.func10, Tryd.ntmps10
  go_wp2_with (first | (at_builtin; refine wpList_append_any rfl (.tmp 3) (.tmp 4) 29 rfl w.heap.size 2 _ 1 8 infoI64 Tryd.underlying29 rfl (by decide) _ 0 [] rfl HO0.out w.heap.size P p.length pc (p.map intV) rfl (HA.out.below HB0.out) G1.out G5.out G6.out HB0.out.size ?_; intro v1 w1 hown1 hg1 _; rw [Nat.zero_add, List.nil_append] at hown1; obtain ⟨A1, c1, hv1, _⟩ := own_sh hown1; subst hv1; have HO1 := hide hown1; have HB1 : Hid (Below w.heap.size w w1) := hide (HB0.out.grown hg1 HB0.out.size (fun j hj => by have := Option.some.inj (show some w.heap.size = some j from hj); omega)); clear hown1 hg1) | (at_builtin; refine wpList_append_any rfl (.tmp 5) (.tmp 6) 29 rfl w.heap.size 2 _ 1 8 infoI64 Tryd.underlying29 rfl (by decide) _ p.length (p.map intV) rfl (own_below HO1.out ((Below.refl _ _).alloc (Nat.le_refl _) _) (Nat.le_refl _)) _ (some ⟨w1.heap.size, 0, none⟩) 1 1 ([4242].map intV) rfl (reads_row (xs := [.int .i64 4242]) (heap_alloc_new w1 _) rfl) G2.out G7.out G8.out (by have := HB1.out.size; simp; omega) ?_; intro v2 w2 hown2 hg2 _; obtain ⟨g2, c2, hv2, _⟩ := hown2.form (by omega); subst hv2; have HB2 : Hid (Below w.heap.size w w2) := hide ((HB1.out.alloc HB1.out.size _).grown hg2 (by have := HB1.out.size; simp; omega) (fun j hj => (HO1.out.lt j hj).1)); have hcap : (p.length : Int) ≤ (c2 : Int) := (by obtain ⟨_, _, e, hc⟩ := own_sh hown2; injection e with _ _ e; omega); have HCC : Hid (p.length + 1 ≤ c2) := hide (by obtain ⟨_, _, e, hc⟩ := own_sh hown2; injection e with _ _ e; omega); have HO2 : Hid (w2.ownsRow w.heap.size 2 1 (.slice (some ⟨g2, 0, none⟩) (p.length + 1) c2) (p.length + 1) ((p ++ [4242]).map intV)) := hide (by rw [List.map_append]; exact hown2); clear hown2 hg2))
  go_ret
  exact ⟨g2, c2, rfl, HO2.out, HB2.out, HCC.out⟩

set_option maxRecDepth 100000 in
set_option maxHeartbeats 4000000 in
theorem kept_any (g c : Nat) (P : Option Addr) (pc : Nat) (p : List Int) (w : World) (hm : One intV w w.heap.size (some ⟨g, 0, none⟩) (p ++ [4242])) (h : One intV w w.heap.size P p) (hc : p.length + 1 ≤ c) (hl : p.length ≤ 1000000) :
    Calls Tryd.prog 17 #[.slice (some ⟨g, 0, none⟩) p.length c, .slice P p.length pc] w (ValPost (.bool true) w) := by
  have hw1 : wrap64 ((p.length : Int) + 1) = ((p.length + 1 : Nat) : Int) := by unfold wrap64; omega
  have hci : (p.length : Int) + 1 ≤ (c : Int) := by omega
  obtain ⟨b1, o1, e1, hg, hmc⟩ := One.at_ hm (by simp)
  injection e1 with e1
  injection e1 with e1 e2
  subst e1 e2
  have hat := fun hn => One.at_ h hn
  clear h hm
  go_enter Tryd.func17, Tryd.ntmps17
  go_wp2_with fail
  go_loopw [5] (fun iv wr => ∃ k : Nat, k ≤ p.length ∧ iv = .int .i64 k ∧ Below w.heap.size w wr) (fun iv _ => p.length - (intOf iv).toNat)
  case atStart => exact ⟨0, Nat.zero_le _, rfl, Below.refl _ _⟩
  case round =>
    obtain ⟨k, hk, rfl, hb⟩ := hrel
    have HB := hide hb
    by_cases hlt : k < p.length
    · obtain ⟨b, o, rfl, hbB, hcc⟩ := hat (by omega)
      obtain ⟨x, hx⟩ : ∃ x, p[k]? = some x := ⟨p[k], List.getElem?_eq_getElem hlt⟩
      have d0 := (hb.cell (p := ⟨b, o + k, none⟩) hbB).trans (hcc k _ hx)
      have hx' : (p ++ [4242])[k]? = some x := by rw [List.getElem?_append_left hlt]; exact hx
      have f0 := (hb.cell (p := ⟨g, 0 + k, none⟩) hg).trans (hmc k _ hx')
      simp only [Nat.zero_add] at f0
      have hki : (k : Int) < (p.length : Int) := by omega
      have hne : (x != x) = false := by simp
      clear hcc hmc hat hx hx' hb
      go_wp2_with fail
      go_quiet (fail)
      go_wp2_with fail
      go_roundw
      case rel => exact ⟨k + 1, by omega, by go_num, below_drewN HB.out _⟩
      case measure => simp [intOf]; omega
    · obtain rfl : k = p.length := by omega
      have hx' : (p ++ [4242])[p.length]? = some 4242 := by simp
      have f0 := (hb.cell (p := ⟨g, 0 + p.length, none⟩) hg).trans (hmc _ _ hx')
      simp only [Nat.zero_add] at f0
      clear hat hmc hx' hb
      go_wp2_with fail
      go_ret
      exact ⟨rfl, HB.out⟩
end Go.Proofs.YtinkieogcpidkaaDoor
