/- The walk of works: ten coins shared, halved, told. -/
import Derived.Test.YtgjeihgkcmheeaaDoorSha
import Derived.Test.YtgjeihgkcmheeaaDoorRat
import Derived.Test.YtgjeihgkcmheeaaDoorTxt
namespace Go.Proofs.YtgjeihgkcmheeaaDoor
open Go.RowKit Go.Shelf Go.Sort

theorem share_122 : shareL 10 [1, 2, 2] = [2, 4, 4] := by decide +kernel
theorem share_122ok : shareOK 10 [1, 2, 2] = true := by decide +kernel
theorem part_75 : partR 10 4604930618986332160 = (8, 0) := by decide +kernel
theorem rate_14 : rateR 1 4 = (4598175219545276416, 0) := by decide +kernel
theorem parse_12 : parseC ⟨#[49, 50]⟩ = (12, 0) := by decide +kernel
theorem text_12 : textB 12 = ⟨#[49, 50]⟩ := by decide +kernel
set_option maxRecDepth 100000 in
theorem func_nil (fn : Fn) (a b : Array Value) (W : World) : (binOp .eql 34 (.func fn a b) .nilFunc).run Tryd.prog W = .ok (.bool false) W := rfl
/-- What Even leaves: a going over that has not begun. -/
def EvenP (c n : Int) (w : World) (e : Ending) (w' : World) : Prop := e = .returned (.func (.func 45) #[] #[.pointer (some ⟨w.heap.size, 0, none⟩), .pointer (some ⟨w.heap.size + 1, 0, none⟩)]) ∧ w' = (w.alloc (.cells #[.int .i64 c] 2)).alloc (.cells #[.int .i64 n] 3)
set_option maxHeartbeats 1000000 in
theorem even_any (c n : Int) (w : World) : Calls Tryd.prog 17 #[.int .i64 c, .int .i64 n] w (EvenP c n w) := by
  have hmf : ∀ (fn : Fn) (first cap : Array Value) (w : World), (Instr.makeFunc fn first cap).run Tryd.prog w = .ok (.func fn first cap) w := fun _ _ _ _ => rfl
  go_enter Tryd.func17, Tryd.ntmps17
  go_wp2_with fail
  go_ret
  exact ⟨rfl, rfl⟩
theorem two_below (w : World) (o1 o2 : Obj) : Below w.heap.size w ((w.alloc o1).alloc o2) := ((Below.refl _ w).alloc (Nat.le_refl _) o1).alloc (by simp) o2
set_option maxRecDepth 100000 in
set_option maxHeartbeats 8000000 in
theorem works_any (w : World) (hL : LdW w) : Calls Tryd.prog 10 #[] w (BelP (.bool true) w) := by
  have hrow := own_new w (intV [1, 2, 2]) 2 (by simp [intV, maxLen])
  have HB0 : Hid (Below w.heap.size w (w.alloc (.cells #[.int .i64 1, .int .i64 2, .int .i64 2] 2))) := hide ((Below.refl _ _).alloc (Nat.le_refl _) _)
  have hrd : Reads (w.alloc (.cells #[.int .i64 1, .int .i64 2, .int .i64 2] 2)) (w.alloc (.cells #[.int .i64 1, .int .i64 2, .int .i64 2] 2)).heap.size 1 (some ⟨w.heap.size, 0, none⟩) 3 (intV [1, 2, 2]) := Reads.of_own hrow
  have hS := share_any (c := 10) (cc := 3) hrd (by decide)
  unfold ShareP at hS
  rw [share_122, share_122ok] at hS
  have HS := hide hS
  have HLD := hide hL
  have HPT : Hid (∀ W, LdW W → Calls Tryd.prog 31 #[.int .i64 10, .float .f64 4604930618986332160] W (BelP (.tuple #[.int .i64 8, .int .i64 0]) W)) := hide (fun W hW => by
    have := part_any 10 4604930618986332160 (by decide) W hW.db
    rwa [part_75] at this)
  have HRT : Hid (∀ W, Calls Tryd.prog 36 #[.int .i64 1, .int .i64 4] W (SameP (.tuple #[.float .f64 4598175219545276416, .int .i64 0]) W)) := hide (fun W => by
    have := rate_any 1 4 W
    rwa [rate_14] at this)
  have HPS : Hid (∀ W, LdW W → Calls Tryd.prog 19 #[.string ⟨#[49, 50]⟩] W (BelP (.tuple #[.int .i64 12, .int .i64 0]) W)) := hide (fun W hW => by
    have := parse_any ⟨#[49, 50]⟩ (by decide) W hW
    rwa [parse_12] at this)
  have HTX : Hid (∀ W, LdW W → Calls Tryd.prog 21 #[.int .i64 12] W (BelP (.string ⟨#[49, 50]⟩) W)) := hide (fun W hW => by
    have := text_any 12 (by decide) (by decide) W hW
    rwa [text_12] at this)
  have HEV := hide (fun W => even_any 7 3 W)
  have HNM := hide (fun W => num_any 0 W)
  have HAR : Hid (∀ W, Calls Tryd.prog 26 #[.int .i64 12] W (SameP (.bool true) W)) := hide (fun W => are_any 12 W)
  have hfn := func_nil
  have o1 : FloatKind.f64.format.order 4598175219545276416 4598175219545276416 = some .eq := by decide +kernel
  have hts : ((⟨#[49, 50]⟩ : ByteArray).toList == (⟨#[49, 50]⟩ : ByteArray).toList) = true := by simp
  clear hrow hrd hS hL
  go_enter Tryd.func10, Tryd.ntmps10
  go_wp2_with fail
  refine (HS.out).mono ?_
  rintro _ w1 ⟨hb1, h⟩
  have HB1 := hide (HB0.out.trans (hb1.mono HB0.out.size))
  rcases h with ⟨h, _⟩ | ⟨_, g, rfl, hown⟩
  · cases h
  have HO := hide hown
  clear hb1 hown
  go_wp2_with fail
  refine (HPT.out _ (HLD.out.below HB1.out)).mono ?_
  rintro _ w2 ⟨rfl, hb⟩
  have HB2 := hide (HB1.out.trans (hb.mono HB1.out.size))
  have HO2 := hide (own_below HO.out hb (Nat.le_refl _))
  clear hb
  go_wp2_with fail
  refine (HRT.out _).mono ?_
  rintro _ _ ⟨rfl, rfl⟩
  rename World => w3
  go_wp2_with fail
  refine (HPS.out _ (HLD.out.below HB2.out)).mono ?_
  rintro _ w4 ⟨rfl, hb⟩
  have HB4 := hide (HB2.out.trans (hb.mono HB2.out.size))
  have HO4 := hide (own_below HO2.out hb (Nat.le_refl _))
  clear hb
  go_wp2_with fail
  refine (HEV.out _).mono ?_
  rintro _ w5 ⟨rfl, rfl⟩
  have HB5 := hide (HB4.out.trans ((two_below w4 (.cells #[.int .i64 7] 2) (.cells #[.int .i64 3] 3)).mono HB4.out.size))
  have HO5 := hide (own_below HO4.out (two_below w4 (.cells #[.int .i64 7] 2) (.cells #[.int .i64 3] 3)) (Nat.le_refl _))
  generalize (w4.alloc (.cells #[.int .i64 7] 2)).alloc (.cells #[.int .i64 3] 3) = w5 at *
  have c0 : w5.cell? ⟨g, 0, none⟩ = some (.int .i64 2) := HO5.out.cellAt 0 (by decide)
  have c2 : w5.cell? ⟨g, 2, none⟩ = some (.int .i64 4) := HO5.out.cellAt 2 (by decide)
  go_wp2_with fail
  refine (HNM.out _).mono ?_
  rintro _ _ ⟨rfl, rfl⟩
  go_wp2_with fail
  refine (HNM.out _).mono ?_
  rintro _ _ ⟨rfl, rfl⟩
  go_wp2_with fail
  refine (HNM.out _).mono ?_
  rintro _ _ ⟨rfl, rfl⟩
  go_wp2_with fail
  refine (HNM.out _).mono ?_
  rintro _ _ ⟨rfl, rfl⟩
  rename World => w6
  go_wp2_with fail
  refine (HTX.out _ (HLD.out.below HB5.out)).mono ?_
  rintro _ w7 ⟨rfl, hb⟩
  have HB7 := hide (HB5.out.trans (hb.mono HB5.out.size))
  clear hb
  go_wp2_with fail
  refine (HAR.out _).mono ?_
  rintro _ _ ⟨rfl, rfl⟩
  go_wp2_with fail
  go_ret
  exact ⟨rfl, HB7.out⟩
end Go.Proofs.YtgjeihgkcmheeaaDoor
