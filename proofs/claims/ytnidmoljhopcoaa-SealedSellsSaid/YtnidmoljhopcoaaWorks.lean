/- gavellaw11.works: it answers true. -/
import Derived.Test.YtnidmoljhopcoaaBox
namespace Go.Proofs.Ytnidmoljhopcoaa
open Go.RowKit

set_option maxRecDepth 100000 in
set_option maxHeartbeats 2000000 in
theorem boxsell_any (B p : Nat) (v : Value) (floor : Int) (l : List (Int × Int)) (w : World) (h : BoxOf w B p v floor l) (hl : l.length ≤ 1000000) :
    Calls Try.prog 24 #[.pointer (some ⟨p, 0, none⟩)] w (ValPost (pairV (comeI floor l, 0)) w) := by
  obtain ⟨A, cp, rfl, _⟩ := own_sh h.row
  have c0 := h.cell 0
  have c1 := h.cell 1
  have c2 := h.cell 2
  simp at c0 c1 c2
  have hlt := lt_of_block h.blk
  have e0 := fun ob : Obj => (World.cell?_alloc_lt w ob ⟨p, 0, none⟩ hlt).trans c0
  have e1 := fun ob : Obj => (World.cell?_alloc_lt w ob ⟨p, 1, none⟩ hlt).trans c1
  have e2 := fun ob : Obj => (World.cell?_alloc_lt w ob ⟨p, 2, none⟩ hlt).trans c2
  have hR : Bids w w.heap.size A l := Reads.of_own h.row
  have HCM : Hid (∀ W, Below w.heap.size w W → Calls Try.prog 28 #[.int .i64 floor, .slice A l.length cp] W (ValPost (soldV (comeI floor l)) W)) := hide (fun W hb => come_any floor A cp l W ((hR.below hb).more hb.size) hl)
  generalize comeI floor l = s4 at *
  obtain ⟨y1, y2, y3, y4⟩ := s4
  simp only [soldV] at HCM
  clear h hR
  go_enter Try.func24, Try.ntmps24
  go_wp2_with (go_at_call 36; refine (none_any p true _ (e0 _)).mono ?_; rintro e w' ⟨rfl, rfl⟩)
  have HZ : Below w.heap.size w (w.alloc (.cells #[.bool false, .int .i64 0, .int .i64 0, .int .i64 0] 27)) := (Below.refl _ _).alloc (Nat.le_refl _) _
  have HBA := hide HZ; clear HZ
  go_region_law (first | (go_simp; go_at_call 28; refine (HCM.out _ (HBA.out.drew)).mono ?_; rintro e w1 ⟨rfl, hb1⟩; have hc1 := fun o => (bcell hb1).1 w.heap.size o (by simp); have hf1 := fun o => (bcell hb1).2 w.heap.size o (by simp); have hz1 : w.heap.size < w1.heap.size := by have := hb1.size; simp at this; omega))
  all_goals rename_i a
  all_goals simp only [Exit.then]
  all_goals apply a
  all_goals go_wp2_with fail
  all_goals refine bodyPost_ret (v := pairV ((y1, y2, y3, y4), 0)) (by simp [results, Try.results24, go_sem, pairV, soldV, hc1, hz1]) rfl ?_
  all_goals refine ⟨rfl, ?_⟩
  all_goals repeat (refine Below.setCell ?_ (by exact Nat.le_refl _) _)
  all_goals exact HBA.out.drew.trans (hb1.mono (B' := w.heap.size) (by simp))
theorem BoxOf.below {w w' : World} {B p : Nat} {v : Value} {floor : Int} {l : List (Int × Int)} (h : BoxOf w B p v floor l) (hb : Below w.heap.size w w') : BoxOf w' B p v floor l :=
  ⟨(hb.block p (lt_of_block h.blk)).trans h.blk, own_below h.row hb (Nat.le_refl _), h.base⟩

theorem func_eq_nil (fn : Fn) (f c : Array Value) (w : World) : (binOp BinOp.eql 56 (.func fn f c) .nilFunc).run Try.prog w = .ok (.bool false) w := rfl

set_option maxRecDepth 100000 in
set_option maxHeartbeats 2000000 in
theorem works_any (w : World) : Calls Try.prog 6 #[] w (ValPost (.bool true) w) := by
  have hW : Below w.heap.size w (w.alloc (.cells #[.int .i64 0, .int .i64 7, .int .i64 1, .int .i64 9, .int .i64 2, .int .i64 4] 33)) := (Below.refl _ _).alloc (Nat.le_refl _) _
  have hbids : Bids (w.alloc (.cells #[.int .i64 0, .int .i64 7, .int .i64 1, .int .i64 9, .int .i64 2, .int .i64 4] 33)) (w.heap.size + 1) (some ⟨w.heap.size, 0, none⟩) [(0, 7), (1, 9), (2, 4)] := by
    refine ⟨rfl, fun _ => ⟨w.heap.size, 0, rfl, by omega, fun j u hu => ?_⟩⟩
    rw [World.cell?_alloc_mark]
    simpa [flat] using hu
  have HS := hide (sell_any 5 (some ⟨w.heap.size, 0, none⟩) 3 [(0, 7), (1, 9), (2, 4)] _ (hbids.more (by simp)) (by simp) (by intro x hx; simp at hx; rcases hx with rfl | rfl | rfl <;> simp))
  rw [show sellI 5 [(0, 7), (1, 9), (2, 4)] = ((true, 1, 9, 7), 0) from by decide] at HS
  simp only [pairV, soldV] at HS
  have HW := hide hW
  clear hbids hW
  have HN := hide (fun W => new_any 5 W rfl)
  have HNUM := hide (fun W => num_any 0 W)
  have HALL := hide (fun p W => all_any p W)
  have HBID := hide (fun B p v W h hB => bid_miss B p v 5 3 6 [] W h hB (by simp) (by simp [idxTo]) (by simp) rfl (by simp))
  have HSELL := hide (fun B p v W h => boxsell_any B p v 5 [(3, 6)] W h (by simp))
  rw [show comeI 5 [(3, 6)] = (true, 3, 6, 5) from by decide] at HSELL
  simp only [pairV, soldV] at HSELL
  have hfe := func_eq_nil
  go_enter Try.func6, Try.ntmps6
  go_wp2_with (first | (go_at_call 7; refine (HS.out).mono ?_; rintro e w1 ⟨rfl, hb1⟩; have hc1 := fun o => (bcell hb1).1 w.heap.size o (by simp); have HZ1 : Hid (Below w.heap.size w w1) := hide (HW.out.trans (hb1.mono (by simp))); clear hb1) | (go_at_call 10; refine (HN.out _).mono ?_; rintro e w2 ⟨p, rfl, hbox, hb2⟩; have HBOX := hide hbox; have HS2 : Hid (w2.heap[w1.heap.size]? = some (.cells #[Value.bool true, Value.int IntKind.i64 1, Value.int IntKind.i64 9, Value.int IntKind.i64 7] 27 (0, 0))) := hide ((hb2.block _ (by simp)).trans (heap_alloc_new _ _)); have HZ2 : Hid (Below w.heap.size w w2) := hide ((HZ1.out.alloc HZ1.out.size _).trans (hb2.mono (by have := HZ1.out.size; simp; omega))); clear hbox hb2) | (go_at_call 8; refine (HNUM.out _).mono ?_; rintro e _ ⟨rfl, rfl⟩) | (go_at_call 15; refine (HALL.out _ _).mono ?_; rintro e _ ⟨rfl, rfl⟩) | (go_at_call 23; refine (HBID.out w1.heap.size.succ p _ _ (by simpa using HBOX.out.below ((Below.refl _ _).alloc (Nat.le_refl _) _)) (by have := HZ2.out.size; have := lt_of_block HS2.out; simp; omega)).mono ?_; rintro e w3 ⟨rfl, v3, hbox3, hb3⟩; have HBOX3 := hide hbox3; have HS3 : Hid (w3.heap[w1.heap.size]? = some (.cells #[Value.bool true, Value.int IntKind.i64 1, Value.int IntKind.i64 9, Value.int IntKind.i64 7] 27 (0, 0))) := hide ((hb3.block _ (by simp)).trans ((Below.heap_alloc _ _ _ (lt_of_block HS2.out)).trans HS2.out)); have HZ3 : Hid (Below w.heap.size w w3) := hide ((HZ2.out.alloc HZ2.out.size _).trans (hb3.mono (by have := HZ1.out.size; omega))); clear hbox3 hb3) | (go_at_call 24; refine (HSELL.out _ _ _ _ HBOX3.out).mono ?_; rintro e w4 ⟨rfl, hb4⟩; have hs4 := (hb4.block _ (lt_of_block HS3.out)).trans HS3.out; have HZ4 : Hid (Below w.heap.size w w4) := hide (HZ3.out.trans (hb4.mono HZ3.out.size)); have hl4 := lt_of_block hs4; have e1 := fun i => cell_of_row w4 w1.heap.size i _ 27 (0, 0) hs4; have e2 := fun ob i => (World.cell?_alloc_lt w4 ob ⟨w1.heap.size, i, none⟩ hl4).trans (e1 i); clear hb4 hs4))
  go_ret
  exact ⟨rfl, HZ4.out.alloc HZ4.out.size _⟩
end Go.Proofs.Ytnidmoljhopcoaa
