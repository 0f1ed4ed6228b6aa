/- The walk of MoneyEvens. -/
import Derived.Test.YtgjeihgkcmheeaaDoorPts
namespace Go.Proofs.YtgjeihgkcmheeaaDoor
open Go.RowKit Go.Shelf

set_option maxRecDepth 100000 in
set_option maxHeartbeats 8000000 in
theorem evens_any {w : World} {c n lv : Int} (hn9 : -9223372036854775808 ≤ n ∧ n ≤ 9223372036854775807) (hL : LdW w) : Calls Tryd.prog 4 #[.int .i64 c, .int .i64 n, .int .i64 lv] w (BelP (.bool true) w) := by
  have HWK := hide (fun W hW => works_any W hW)
  have HLD := hide hL
  have HEV := hide (even_any c n w)
  obtain ⟨w1, hw1⟩ : ∃ w1, w1 = (w.alloc (.cells #[.int .i64 c] 2)).alloc (.cells #[.int .i64 n] 3) := ⟨_, rfl⟩
  have HB1 : Hid (Below w.heap.size w w1) := hide (by rw [hw1]; exact two_below w _ _)
  have HX0 : Hid (w1.heap[w.heap.size]? = some (.cells #[.int .i64 c] 2 (0, 0))) := hide (by
    rw [hw1, Below.heap_alloc _ _ _ (by simp)]; exact heap_alloc_new w _)
  have HX1 : Hid (w1.heap[w.heap.size + 1]? = some (.cells #[.int .i64 n] 3 (0, 0))) := hide (by
    rw [hw1]
    have := heap_alloc_new (w.alloc (.cells #[.int .i64 c] 2)) (.cells #[.int .i64 n] 3)
    simpa using this)
  have HPT : Hid (∀ (t : Int), 1 ≤ t ∧ t ≤ 300 → ∀ W, Below w1.heap.size w1 W → Calls Tryd.prog 18 #[.func (.func 45) #[] #[.pointer (some ⟨w.heap.size, 0, none⟩), .pointer (some ⟨w.heap.size + 1, 0, none⟩)], .int .i64 c, .int .i64 n, .int .i64 t] W (BelP (.bool true) W)) := hide (fun t ht W hb => parts_any hn9 ht ((hb.block _ (lt_of_block HX0.out)).trans HX0.out) ((hb.block _ (lt_of_block HX1.out)).trans HX1.out))
  have HW1 := hide hw1
  clear hw1 hL hn9
  have key : ∀ (t : Int), 1 ≤ t ∧ t ≤ 300 → Hid (∀ W, Below w1.heap.size w1 W → Calls Tryd.prog 18 #[.func (.func 45) #[] #[.pointer (some ⟨w.heap.size, 0, none⟩), .pointer (some ⟨w.heap.size + 1, 0, none⟩)], .int .i64 c, .int .i64 n, .int .i64 t] W (BelP (.bool true) W)) := fun t ht => hide (HPT.out t ht)
  have HP300 := key 300 (by omega)
  rcases (show lv < 1 ∨ (¬ lv < 1 ∧ 300 < lv) ∨ (¬ lv < 1 ∧ ¬ 300 < lv) by omega) with h | ⟨h, h2⟩ | ⟨h, h2⟩
  · skip
    clear key
    go_enter Tryd.func4, Tryd.ntmps4
    go_wp2_with fail
    refine (HEV.out).mono ?_
    rintro _ w2 ⟨rfl, hw2⟩
    obtain rfl : w2 = w1 := hw2.trans HW1.out.symm
    clear hw2
    go_wp2_with fail
    refine (HP300.out _ (Below.refl _ _)).mono ?_
    rintro _ w3 ⟨rfl, hb3⟩
    have HB3 := hide hb3
    clear hb3
    go_wp2_with fail
    refine (HP300.out _ HB3.out).mono ?_
    rintro _ w4 ⟨rfl, hb4⟩
    have HB4 := hide (HB1.out.trans ((HB3.out.mono HB1.out.size).trans (hb4.mono (Nat.le_trans HB1.out.size HB3.out.size))))
    clear hb4
    go_wp2_with fail
    refine (HWK.out _ (HLD.out.below HB4.out)).mono ?_
    rintro _ w5 ⟨rfl, hb5⟩
    have HB5 := hide (HB4.out.trans (hb5.mono HB4.out.size))
    clear hb5
    go_wp2_with fail
    go_ret
    exact ⟨rfl, HB5.out⟩
  · skip
    clear key
    go_enter Tryd.func4, Tryd.ntmps4
    go_wp2_with fail
    refine (HEV.out).mono ?_
    rintro _ w2 ⟨rfl, hw2⟩
    obtain rfl : w2 = w1 := hw2.trans HW1.out.symm
    clear hw2
    go_wp2_with fail
    refine (HP300.out _ (Below.refl _ _)).mono ?_
    rintro _ w3 ⟨rfl, hb3⟩
    have HB3 := hide hb3
    clear hb3
    go_wp2_with fail
    refine (HP300.out _ HB3.out).mono ?_
    rintro _ w4 ⟨rfl, hb4⟩
    have HB4 := hide (HB1.out.trans ((HB3.out.mono HB1.out.size).trans (hb4.mono (Nat.le_trans HB1.out.size HB3.out.size))))
    clear hb4
    go_wp2_with fail
    refine (HWK.out _ (HLD.out.below HB4.out)).mono ?_
    rintro _ w5 ⟨rfl, hb5⟩
    have HB5 := hide (HB4.out.trans (hb5.mono HB4.out.size))
    clear hb5
    go_wp2_with fail
    go_ret
    exact ⟨rfl, HB5.out⟩
  · have HPL := key lv (by omega)
    clear key
    go_enter Tryd.func4, Tryd.ntmps4
    go_wp2_with fail
    refine (HEV.out).mono ?_
    rintro _ w2 ⟨rfl, hw2⟩
    obtain rfl : w2 = w1 := hw2.trans HW1.out.symm
    clear hw2
    go_wp2_with fail
    refine (HPL.out _ (Below.refl _ _)).mono ?_
    rintro _ w3 ⟨rfl, hb3⟩
    have HB3 := hide hb3
    clear hb3
    go_wp2_with fail
    refine (HP300.out _ HB3.out).mono ?_
    rintro _ w4 ⟨rfl, hb4⟩
    have HB4 := hide (HB1.out.trans ((HB3.out.mono HB1.out.size).trans (hb4.mono (Nat.le_trans HB1.out.size HB3.out.size))))
    clear hb4
    go_wp2_with fail
    refine (HWK.out _ (HLD.out.below HB4.out)).mono ?_
    rintro _ w5 ⟨rfl, hb5⟩
    have HB5 := hide (HB4.out.trans (hb5.mono HB4.out.size))
    clear hb5
    go_wp2_with fail
    go_ret
    exact ⟨rfl, HB5.out⟩
end Go.Proofs.YtgjeihgkcmheeaaDoor
