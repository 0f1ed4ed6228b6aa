/- The walks of container/heap's Fix, Push, Pop, Remove over a calendar's row. -/
import Derived.Test.YtdaicdaakegdmaaDow
namespace Go.Proofs.Ytdaicdaakegdmaa
open Go.RowKit Go.Maps Go.Shelf
open Go.ChangeMaps Go.WideMaps

section
variable {w : World} {B p r x m : Nat} {v : Value} {now : Int} {l : List Du}
theorem mend_stay {w1 w2 : World} {l1 l2 : List Du} (h1 : Only (Foot p r m v) w w1) (h2 : StayP B p r x m v now l2 (.tuple #[]) w1 (.returned (.tuple #[])) w2) : StayP B p r x m v now l2 (.tuple #[]) w (.returned (.tuple #[])) w2 :=
  ⟨rfl, h2.2.1, h1.trans h2.2.2 (fun _ _ h => h)⟩
set_option maxRecDepth 100000 in
set_option maxHeartbeats 4000000 in
theorem fix_any (h : Cal w B p r x m v now l) (i : Nat) (hi : i < l.length) :
    Calls Try.prog 27 #[.iface 65 (.pointer (some ⟨r, 0, none⟩)), .int .i64 (i : Int)] w (StayP B p r x m v now (mendD l i l.length) (.tuple #[]) w) := by
  have ml := meth_len (.pointer (some ⟨r, 0, none⟩))
  have el := ent30
  have HLN := hide (len_cal h)
  have HDN := hide (down_any h i l.length (.inl hi) (Nat.le_refl _))
  have HDL := hide (downD_length _ l i l.length rfl)
  have HD := hide h
  clear h
  by_cases hd : i < (downD l i l.length).2
  · have hE : Hid (mendD l i l.length = (downD l i l.length).1) := hide (by unfold mendD; rw [if_pos hd])
    rw [show decide (i < (downD l i l.length).2) = true from decide_eq_true hd] at HDN
    clear hd
    go_enter Try.func27, Try.ntmps27
    go_wp2_with (first | (go_at_fn 30; refine (HLN.out).mono ?_; rintro _ _ ⟨rfl, rfl⟩) | (go_at_call 43; refine (HDN.out).mono ?_; rintro _ w2 ⟨rfl, hc2, ho2⟩; have HC2 := hide hc2; have HO2 := hide ho2; clear hc2 ho2))
    go_end0
    exact ⟨rfl, by rw [hE.out]; exact HC2.out, HO2.out⟩
  · have hE : Hid (mendD l i l.length = upD (downD l i l.length).1 i) := hide (by unfold mendD; rw [if_neg hd])
    rw [show decide (i < (downD l i l.length).2) = false from decide_eq_false hd] at HDN
    clear hd
    go_enter Try.func27, Try.ntmps27
    go_wp2_with (first | (go_at_fn 30; refine (HLN.out).mono ?_; rintro _ _ ⟨rfl, rfl⟩) | (go_at_call 43; refine (HDN.out).mono ?_; rintro _ w2 ⟨rfl, hc2, ho2⟩; have HC2 := hide hc2; have HO2 := hide ho2; clear hc2 ho2) | (go_at_call 44; refine (up_any HC2.out i (by rw [HDL.out.1]; exact hi)).mono ?_; rintro _ w3 ⟨rfl, hc3, ho3⟩; have HC3 := hide hc3; have HO3 := hide ho3; clear hc3 ho3))
    go_end0
    exact ⟨rfl, by rw [hE.out]; exact HC3.out, HO2.out.trans HO3.out (fun _ _ h => h)⟩

theorem turn_stay {w1 w2 : World} {v1 : Value} (h1 : Only (Foot p r m v) w w1) (hv : ∀ g, v1.ownBlock = some g → v.ownBlock = some g ∨ w.heap.size ≤ g) (h2 : Only (Foot p r m v1) w1 w2) : Only (Foot p r m v) w w2 :=
  h1.trans h2 (fun k hk hf => by
    rcases hf with h | h | h | h
    · exact .inl h
    · exact .inr (.inl h)
    · exact .inr (.inr (.inl h))
    · rcases hv k h with h | h
      · exact .inr (.inr (.inr h))
      · omega)
set_option maxRecDepth 100000 in
set_option maxHeartbeats 4000000 in
theorem hpush_any (h : Cal w B p r x m v now l) (hBw : B ≤ w.heap.size) (d : Du) (hd : posD l d.2 = none) (hok : (0 ≤ d.1 ∧ d.1 ≤ 1099511627776) ∧ 0 ≤ d.2 ∧ d.2 ≤ 9223372036854775807) (hl : l.length + 1 ≤ 1000000) :
    Calls Try.prog 28 #[.iface 65 (.pointer (some ⟨r, 0, none⟩)), .iface 30 (.agg #[.int .i64 d.1, .int .i64 d.2])] w (TurnP B p r x m v now (pushD l d) (.tuple #[]) w) := by
  have ml := meth_len (.pointer (some ⟨r, 0, none⟩))
  have mp := meth_push (.pointer (some ⟨r, 0, none⟩))
  have el := ent30
  have ep := ent88
  have HPU := hide (push_row h hBw d hd hok hl)
  have hE : Hid (pushD l d = upD (l ++ [d]) l.length) := hide rfl
  have HLL : Hid ((l ++ [d]).length = l.length + 1) := hide (by simp)
  have hw1 : IntKind.i64.wrap (((l ++ [d]).length : Int) - 1) = (l.length : Int) := by rw [HLL.out, Go.IntWalk.i64_in _ (by omega)]; omega
  obtain ⟨d1, d2⟩ := d
  clear h hd
  generalize l ++ [(d1, d2)] = l2 at *
  go_enter Try.func28, Try.ntmps28
  go_wp2_with (first | (go_at_fn 88; refine (HPU.out).mono ?_; rintro _ w2 ⟨rfl, v2, hc2, ho2, hv2⟩; have HC2 := hide hc2; have HO2 := hide ho2; have HV2 := hide hv2; have HLN := hide (len_cal hc2); clear hc2 ho2 hv2) | (go_at_fn 30; refine (HLN.out).mono ?_; rintro _ _ ⟨rfl, rfl⟩) | (go_at_call 44; refine (up_any HC2.out l.length (by rw [HLL.out]; omega)).mono ?_; rintro _ w3 ⟨rfl, hc3, ho3⟩; have HC3 := hide hc3; have HO3 := hide ho3; clear hc3 ho3))
  go_end0
  exact ⟨rfl, v2, by rw [hE.out]; exact HC3.out, turn_stay HO2.out HV2.out HO3.out, HV2.out⟩

set_option maxRecDepth 100000 in
set_option maxHeartbeats 4000000 in
theorem hpop_any (h : Cal w B p r x m v now l) (h0 : 0 < l.length) :
    Calls Try.prog 29 #[.iface 65 (.pointer (some ⟨r, 0, none⟩))] w (TurnP B p r x m v now (popD l) (.iface 30 (duV (gD l 0))) w) := by
  have ml := meth_len (.pointer (some ⟨r, 0, none⟩))
  have ms := meth_swap (.pointer (some ⟨r, 0, none⟩))
  have mo := meth_pop (.pointer (some ⟨r, 0, none⟩))
  have el := ent30
  have es := ent89
  have eo := ent87
  obtain ⟨k, hk⟩ : ∃ k, k = l.length - 1 := ⟨_, rfl⟩
  have HLN := hide (len_cal h)
  have HSW := hide (swap_any h 0 k h0 (by omega))
  have hw1 : IntKind.i64.wrap ((l.length : Int) - 1) = (k : Int) := by rw [Go.IntWalk.i64_in _ (by have := h.len; omega)]; omega
  have hsl : (swD l 0 k).length = l.length := swD_length _ _ _
  have hdl : (downD (swD l 0 k) 0 k).1.length = l.length := (downD_length _ (swD l 0 k) 0 k rfl).1.trans hsl
  have hval : gD (downD (swD l 0 k) 0 k).1 k = gD l 0 := by
    rw [(downD_perm _ (swD l 0 k) 0 k rfl (by omega)).2 k (Nat.le_refl _), swD_get h0 (by omega), if_pos rfl]
  have hE : Hid (popD l = (downD (swD l 0 k) 0 k).1.take ((downD (swD l 0 k) 0 k).1.length - 1)) := hide (by unfold popD; rw [hdl, ← hk])
  have HVL : Hid (gD (downD (swD l 0 k) 0 k).1 ((downD (swD l 0 k) 0 k).1.length - 1) = gD l 0) := hide (by rw [hdl, ← hk]; exact hval)
  have HSL : Hid (k ≤ (swD l 0 k).length) := hide (by omega)
  have HDL : Hid (0 < (downD (swD l 0 k) 0 k).1.length) := hide (by omega)
  clear h hk hval hdl hsl
  go_enter Try.func29, Try.ntmps29
  go_wp2_with (first | (go_at_fn 30; refine (HLN.out).mono ?_; rintro _ _ ⟨rfl, rfl⟩) | (go_at_fn 89; refine (HSW.out).mono ?_; rintro _ w2 ⟨rfl, hc2, ho2⟩; have HC2 := hide hc2; have HO2 := hide ho2; clear hc2 ho2) | (go_at_call 43; refine (down_any HC2.out 0 k (.inr rfl) HSL.out).mono ?_; rintro _ w3 ⟨rfl, hc3, ho3⟩; have HC3 := hide hc3; have HO3 : Hid (Only (Foot p r m v) w w3) := hide (HO2.out.trans ho3 (fun _ _ h => h)); clear hc3 ho3) | (go_at_fn 87; refine (pop_row HC3.out HDL.out).mono ?_; rintro _ w4 ⟨rfl, v4, hc4, ho4, hv4⟩; have HC4 := hide hc4; have HO4 := hide ho4; have HV4 := hide hv4; clear hc4 ho4 hv4))
  go_ret
  exact ⟨by rw [← HVL.out]; rfl, v4, by rw [hE.out]; exact HC4.out, HO3.out.trans HO4.out (fun _ _ h => h), fun g hg => (HV4.out g hg).imp id (fun h => Nat.le_trans HO3.out.size h)⟩

/-- What a call on a calendar leaves, whatever it answers. -/
def TurnX (B p r x m : Nat) (v : Value) (now : Int) (l' : List Du) (w : World) (e : Ending) (w' : World) : Prop := ∃ val, TurnP B p r x m v now l' val w e w'
set_option maxRecDepth 100000 in
set_option maxHeartbeats 4000000 in
theorem hrem_any (h : Cal w B p r x m v now l) (i : Nat) (hi : i < l.length) :
    Calls Try.prog 38 #[.iface 65 (.pointer (some ⟨r, 0, none⟩)), .int .i64 (i : Int)] w (TurnX B p r x m v now (removeD l i) w) := by
  have ml := meth_len (.pointer (some ⟨r, 0, none⟩))
  have ms := meth_swap (.pointer (some ⟨r, 0, none⟩))
  have mo := meth_pop (.pointer (some ⟨r, 0, none⟩))
  have el := ent30
  have es := ent89
  have eo := ent87
  obtain ⟨k, hk⟩ : ∃ k, k = l.length - 1 := ⟨_, rfl⟩
  have HLN := hide (len_cal h)
  have hw1 : IntKind.i64.wrap ((l.length : Int) - 1) = (k : Int) := by rw [Go.IntWalk.i64_in _ (by have := h.len; omega)]; omega
  by_cases hki : k = i
  · have hne : ((k : Int) != (i : Int)) = false := by rw [hki]; simp
    have HPR := hide (pop_row h (by omega))
    have hE : Hid (removeD l i = l.take (l.length - 1)) := hide (by unfold removeD; rw [if_pos (by omega)])
    clear h hk hki
    go_enter Try.func38, Try.ntmps38
    go_wp2_with (first | (go_at_fn 30; refine (HLN.out).mono ?_; rintro _ _ ⟨rfl, rfl⟩) | (go_at_fn 87; refine (HPR.out).mono ?_; rintro _ w4 ⟨rfl, v4, hc4, ho4, hv4⟩; have HC4 := hide hc4; have HO4 := hide ho4; have HV4 := hide hv4; clear hc4 ho4 hv4))
    go_ret
    exact ⟨_, rfl, v4, by rw [hE.out]; exact HC4.out, HO4.out, HV4.out⟩
  · have hne : ((k : Int) != (i : Int)) = true := by rw [bne_iff_ne]; omega
    have HSW := hide (swap_any h i k hi (by omega))
    have hsl : (swD l i k).length = l.length := swD_length _ _ _
    have hdl : (downD (swD l i k) i k).1.length = l.length := (downD_length _ (swD l i k) i k rfl).1.trans hsl
    have HSL : Hid (k ≤ (swD l i k).length ∧ i < (swD l i k).length) := hide (by omega)
    have HDL : Hid ((downD (swD l i k) i k).1.length = l.length) := hide hdl
    have HIL := hide hi
    clear h
    by_cases hd : i < (downD (swD l i k) i k).2
    · have hE : Hid (removeD l i = (downD (swD l i k) i k).1.take ((downD (swD l i k) i k).1.length - 1)) := hide (by unfold removeD mendD; rw [if_neg (by omega), ← hk, if_pos hd, hdl, ← hk])
      have HDN : Hid (decide (i < (downD (swD l i k) i k).2) = true) := hide (decide_eq_true hd)
      clear hk hki hdl hsl hd
      go_enter Try.func38, Try.ntmps38
      go_wp2_with (first | (go_at_fn 30; refine (HLN.out).mono ?_; rintro _ _ ⟨rfl, rfl⟩) | (go_at_fn 89; refine (HSW.out).mono ?_; rintro _ w2 ⟨rfl, hc2, ho2⟩; have HC2 := hide hc2; have HO2 := hide ho2; clear hc2 ho2) | (go_at_call 43; refine (down_any HC2.out i k (.inl HSL.out.2) HSL.out.1).mono ?_; rw [HDN.out]; rintro _ w3 ⟨rfl, hc3, ho3⟩; have HC3 := hide hc3; have HO3 : Hid (Only (Foot p r m v) w w3) := hide (HO2.out.trans ho3 (fun _ _ h => h)); clear hc3 ho3) | (go_at_fn 87; refine (pop_row HC3.out (by rw [HDL.out]; have := HIL.out; omega)).mono ?_; rintro _ w4 ⟨rfl, v4, hc4, ho4, hv4⟩; have HC4 := hide hc4; have HO4 := hide ho4; have HV4 := hide hv4; clear hc4 ho4 hv4))
      go_ret
      exact ⟨_, rfl, v4, by rw [hE.out]; exact HC4.out, HO3.out.trans HO4.out (fun _ _ h => h), fun g hg => (HV4.out g hg).imp id (fun h => Nat.le_trans HO3.out.size h)⟩
    · have hul : (upD (downD (swD l i k) i k).1 i).length = l.length := (upD_length _ _).trans hdl
      have hE : Hid (removeD l i = (upD (downD (swD l i k) i k).1 i).take ((upD (downD (swD l i k) i k).1 i).length - 1)) := hide (by unfold removeD mendD; rw [if_neg (by omega), ← hk, if_neg hd, hul, ← hk])
      have HDN : Hid (decide (i < (downD (swD l i k) i k).2) = false) := hide (decide_eq_false hd)
      have HUL : Hid ((upD (downD (swD l i k) i k).1 i).length = l.length) := hide hul
      clear hk hki hdl hsl hd hul
      go_enter Try.func38, Try.ntmps38
      go_wp2_with (first | (go_at_fn 30; refine (HLN.out).mono ?_; rintro _ _ ⟨rfl, rfl⟩) | (go_at_fn 89; refine (HSW.out).mono ?_; rintro _ w2 ⟨rfl, hc2, ho2⟩; have HC2 := hide hc2; have HO2 := hide ho2; clear hc2 ho2) | (go_at_call 43; refine (down_any HC2.out i k (.inl HSL.out.2) HSL.out.1).mono ?_; rw [HDN.out]; rintro _ w3 ⟨rfl, hc3, ho3⟩; have HC3 := hide hc3; have HO3 : Hid (Only (Foot p r m v) w w3) := hide (HO2.out.trans ho3 (fun _ _ h => h)); clear hc3 ho3) | (go_at_call 44; refine (up_any HC3.out i (by rw [HDL.out]; exact HIL.out)).mono ?_; rintro _ w5 ⟨rfl, hc5, ho5⟩; have HC5 := hide hc5; have HO5 : Hid (Only (Foot p r m v) w w5) := hide (HO3.out.trans ho5 (fun _ _ h => h)); clear hc5 ho5) | (go_at_fn 87; refine (pop_row HC5.out (by rw [HUL.out]; have := HIL.out; omega)).mono ?_; rintro _ w4 ⟨rfl, v4, hc4, ho4, hv4⟩; have HC4 := hide hc4; have HO4 := hide ho4; have HV4 := hide hv4; clear hc4 ho4 hv4))
      go_ret
      exact ⟨_, rfl, v4, by rw [hE.out]; exact HC4.out, HO5.out.trans HO4.out (fun _ _ h => h), fun g hg => (HV4.out g hg).imp id (fun h => Nat.le_trans HO5.out.size h)⟩
end
end Go.Proofs.Ytdaicdaakegdmaa
