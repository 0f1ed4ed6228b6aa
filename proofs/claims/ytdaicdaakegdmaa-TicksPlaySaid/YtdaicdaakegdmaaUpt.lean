/- The walks of a calendar's Drop, At, Upto. -/
import Derived.Test.YtdaicdaakegdmaaTik
namespace Go.Proofs.Ytdaicdaakegdmaa
open Go.RowKit Go.Maps Go.Shelf
open Go.ChangeMaps Go.WideMaps

/-- The document's At. -/
def atS (S : List Du) (n : Int) : Option Int := (S.find? (fun x => decide (x.2 = n))).map (·.1)
theorem atS_some {l S : List Du} (h : RelD l S) {n : Int} {i : Nat} (hp : posD l n = some i) : atS S n = some (gD l i).1 := by
  obtain ⟨hi, hin⟩ := posD_some hp
  have hm : gD l i ∈ S := h.perm.mem_iff.1 (gD_mem hi)
  unfold atS
  cases hf : S.find? (fun x => decide (x.2 = n)) with
  | none =>
    have := List.find?_eq_none.1 hf _ hm
    simp [hin] at this
  | some y =>
    have h1 := List.find?_some hf
    have h2 := List.mem_of_find?_eq_some hf
    have h3 : y.2 = n := by simpa using h1
    obtain ⟨a, ha, ea⟩ := List.mem_iff_getElem.1 h2
    obtain ⟨b, hb, eb⟩ := List.mem_iff_getElem.1 hm
    have hab : a = b := nod_inj h.nod ha hb (by rw [gD_of ha, gD_of hb, ea, eb, h3, hin])
    subst hab
    rw [ea] at eb
    rw [eb]; rfl
theorem atS_none {l S : List Du} (h : RelD l S) {n : Int} (hp : posD l n = none) : atS S n = none := by
  unfold atS
  rw [Option.map_eq_none_iff, List.find?_eq_none]
  intro y hy
  simpa using posD_none.1 hp y (h.perm.mem_iff.2 hy)
def atV (S : List Du) (n : Int) : Value := match atS S n with
  | some t => .tuple #[.int .i64 t, .int .i64 0]
  | none => .tuple #[.int .i64 0, .int .i64 4]
section
variable {w : World} {B p r x m : Nat} {v : Value} {now : Int} {l S : List Du}
set_option maxHeartbeats 2000000 in
theorem at_any (h : Cal w B p r x m v now l) (hS : RelD l S) (n : Int) (hn : -9223372036854775808 ≤ n ∧ n ≤ 9223372036854775807) : Calls Try.prog 40 #[.pointer (some ⟨p, 0, none⟩), .int .i64 n] w (SameP (atV S n) w) := by
  have c1 := h.cells.2.1
  have c2 := h.cells.2.2.1
  have hkey := keyOf_int_mk (P := Try.prog) Try.underlying2 (WalkArith.wf_i64 (n := n) (by omega))
  obtain ⟨D, hD, hF, hSz⟩ := h.map
  cases hp : posD l n with
  | none =>
    have hhas : Maps.has D (.int .i64 n) = false := by rw [hF.has, hp]; rfl
    rw [show atV S n = .tuple #[.int .i64 0, .int .i64 4] by unfold atV; rw [atS_none hS hp]]
    clear h hS hF hSz hp
    go_enter Try.func40, Try.ntmps40
    go_wp2_with (first | (go_at_call 25; refine (none_any p _ _ c1).mono ?_; rintro e _ ⟨rfl, rfl⟩) | (at_lookup; refine wpList_lookup_own_ok_int _ rfl _ _ 66 rfl 2 3 .i64 law2 Try.underlying66 Try.underlying3 (zero3 _) m l.length D rfl hD _ (.int .i64 n) rfl hkey ?_; intro c hat hwc))
    go_ret2
    exact ⟨rfl, rfl⟩
  | some i =>
    obtain ⟨hi, hin⟩ := posD_some hp
    have hhas : Maps.has D (.int .i64 n) = true := by rw [hF.has, hp]; rfl
    have hat0 := hide (hF.at_ n i hp)
    obtain ⟨g, c, rfl, _⟩ := h.row.form (by omega)
    have c3 := h.cells.2.2.2.1
    have x0 := (h.row.cellAt (i * 2) (by omega)).trans (flatD_at l i hi).1
    have hi1 : (i : Int) < (l.length : Int) := by omega
    have hi2 : (0 : Int) ≤ (i : Int) := by omega
    rw [show atV S n = .tuple #[.int .i64 (gD l i).1, .int .i64 0] by unfold atV; rw [atS_some hS hp]]
    clear h hS hF hSz hp hin
    go_enter Try.func40, Try.ntmps40
    go_wp2_with (first | (go_at_call 25; refine (none_any p _ _ c1).mono ?_; rintro e _ ⟨rfl, rfl⟩) | (at_lookup; refine wpList_lookup_own_ok_int _ rfl _ _ 66 rfl 2 3 .i64 law2 Try.underlying66 Try.underlying3 (zero3 _) m l.length D rfl hD _ (.int .i64 n) rfl hkey ?_; intro c' hat hwc; obtain rfl : c' = (i : Int) := (Lit.int.inj (DataW.lit.inj (hat.symm.trans hat0.out))).2; clear hat hwc))
    go_ret2
    exact ⟨rfl, rfl⟩
def dropC (S : List Du) (n : Int) : Int := if (atS S n).isSome then 0 else 4
set_option maxRecDepth 100000 in
set_option maxHeartbeats 4000000 in
theorem drop_any (h : Cal w B p r x m v now l) (hS : RelD l S) (n : Int) (hn : -9223372036854775808 ≤ n ∧ n ≤ 9223372036854775807) :
    Calls Try.prog 16 #[.pointer (some ⟨p, 0, none⟩), .int .i64 n] w (ActP B p r x m v now (woD S n) (.int .i64 (dropC S n)) w) := by
  have c1 := h.cells.2.1
  have c2 := h.cells.2.2.1
  have hkey := keyOf_int_mk (P := Try.prog) Try.underlying2 (WalkArith.wf_i64 (n := n) (by omega))
  obtain ⟨D, hD, hF, hSz⟩ := h.map
  cases hp : posD l n with
  | none =>
    have hhas : Maps.has D (.int .i64 n) = false := by rw [hF.has, hp]; rfl
    have hwo : woD S n = S := woD_not (fun y hy => posD_none.1 hp y (hS.perm.mem_iff.2 hy))
    have HR := hide (ActP.same h hS (.int .i64 4))
    rw [hwo, show dropC S n = 4 by unfold dropC; rw [atS_none hS hp]; rfl]
    clear h hS hF hSz hp hwo
    go_enter Try.func16, Try.ntmps16
    go_wp2_with (first | (go_at_call 25; refine (none_any p _ _ c1).mono ?_; rintro e _ ⟨rfl, rfl⟩) | (at_lookup; refine wpList_lookup_own_ok_int _ rfl _ _ 66 rfl 2 3 .i64 law2 Try.underlying66 Try.underlying3 (zero3 _) m l.length D rfl hD _ (.int .i64 n) rfl hkey ?_; intro c hat hwc))
    go_ret
    exact HR.out
  | some i =>
    obtain ⟨hi, hin⟩ := posD_some hp
    have hhas : Maps.has D (.int .i64 n) = true := by rw [hF.has, hp]; rfl
    have hat0 := hide (hF.at_ n i hp)
    have HRM := hide (hrem_any h i hi)
    have HRL : Hid (RelD (removeD l i) (woD S n)) := hide (by have := hS.remove hi; rwa [hin] at this)
    rw [show dropC S n = 0 by unfold dropC; rw [atS_some hS hp]; rfl]
    clear h hS hF hSz hp hin
    go_enter Try.func16, Try.ntmps16
    go_wp2_with (first | (go_at_call 25; refine (none_any p _ _ c1).mono ?_; rintro e _ ⟨rfl, rfl⟩) | (at_lookup; refine wpList_lookup_own_ok_int _ rfl _ _ 66 rfl 2 3 .i64 law2 Try.underlying66 Try.underlying3 (zero3 _) m l.length D rfl hD _ (.int .i64 n) rfl hkey ?_; intro c' hat hwc; obtain rfl : c' = (i : Int) := (Lit.int.inj (DataW.lit.inj (hat.symm.trans hat0.out))).2; clear hat hwc) | (go_at_call 38; refine (HRM.out).mono ?_; rintro _ w2 ⟨val, rfl, v2, hc2, ho2, hv2⟩; have HC2 := hide hc2; have HO2 := hide ho2; have HV2 := hide hv2; clear hc2 ho2 hv2))
    go_ret
    exact ⟨rfl, v2, _, HC2.out, HRL.out, HO2.out, HV2.out⟩
end
end Go.Proofs.Ytdaicdaakegdmaa
