/- The document's calendar: Drop. -/
import Derived.Test.YtdaicdaakegdmaaDoA
namespace Go.Proofs.Ytdaicdaakegdmaa
open Go.RowKit Go.Maps Go.Shelf
open Go.ChangeMaps Go.WideMaps

section
variable {w w' : World} {B q : Nat} {now : Int} {v : Value} {S : List Du}
theorem wo_absent {S : List Du} {n : Int} (h : atS S n = none) : woD S n = S := by
  unfold atS at h
  rw [Option.map_eq_none_iff, List.find?_eq_none] at h
  exact woD_not (fun x hx => by have := h x hx; simpa using this)
set_option maxRecDepth 100000 in
set_option maxHeartbeats 4000000 in
theorem docDrop_any (h : DocW w B q now v S) (hBw : B ≤ w.heap.size) (n : Int) : Calls Try.prog 39 #[.pointer (some ⟨q, 0, none⟩), .int .i64 n] w (DocP B q v now (woD S n) (.int .i64 (dropC S n)) w) := by
  have HAT := hide (docAt_any h n)
  have HD := hide h
  clear h
  unfold atV at HAT
  cases ha : atS S n with
  | none =>
    have HE : Hid (dropC S n = 4) := hide (by unfold dropC; rw [ha]; rfl)
    have HW := hide (wo_absent ha)
    rw [ha] at HAT
    clear ha
    go_enter Try.func39, Try.ntmps39
    go_wp2_with (go_at_call 41; refine (HAT.out).mono ?_; rintro e _ ⟨rfl, rfl⟩)
    go_ret
    exact ⟨by rw [HE.out]; rfl, v, by rw [HW.out]; exact HD.out, Only.refl _ _, fun g hg => .inl hg⟩
  | some t =>
    have HE : Hid (dropC S n = 0) := hide (by unfold dropC; rw [ha]; rfl)
    rw [ha] at HAT
    clear ha
    obtain ⟨A, c, rfl, hnc, hA, hrd⟩ := HD.out.row.rd
    have HW := hide (without_any A c S n w hrd (by have := HD.out.len; omega))
    obtain ⟨c0, c1⟩ := HD.out.cells
    clear hA hnc hrd
    go_enter Try.func39, Try.ntmps39
    go_wp2_with (go_at_call 41; refine (HAT.out).mono ?_; rintro e _ ⟨rfl, rfl⟩)
    refine (HW.out).mono ?_
    rintro _ w2 ⟨v2, rfl, hr2, hb2⟩
    have HD2 := hide (HD.out.below hb2)
    have HB2 := hide hb2
    obtain ⟨A2, c2', rfl⟩ := own_shape hr2
    have HR2 := hide hr2
    obtain ⟨e0, e1⟩ := HD2.out.cells
    have f1 := frozen_of_row w2 q 1 _ _ HD2.out.blk
    have HNE : Hid (∀ g, (Value.slice A2 (woD S n).length c2').ownBlock = some g → g ≠ q) := hide (fun g hg e => own_ne HR2.out HD2.out.blk (fun cur e => by injection e with _ e _; exact absurd e (by decide)) (e ▸ hg))
    clear hr2 hb2 c0 c1
    go_wp2_with fail
    go_ret
    refine ⟨by rw [HE.out]; rfl, .slice A2 (woD S n).length c2', ⟨?_, ?_, HNE.out, HD2.out.base, ?_⟩, Only.set (S := fun k => k = q) (Only.of_below HB2.out) ⟨q, 1, none⟩ rfl _, fun g hg => .inr (HR2.out.lt g hg).1⟩
    · rw [setCell_block HD2.out.blk 1 _]
      rfl
    · exact SeqW.of_own (own_base (ownsRow_setCell_other HR2.out (own_ne HR2.out HD2.out.blk (fun cur e => by injection e with _ e _; exact absurd e (by decide))) _) hBw)
    · exact Nat.le_trans (woD_len S n) HD2.out.len
end
end Go.Proofs.Ytdaicdaakegdmaa
