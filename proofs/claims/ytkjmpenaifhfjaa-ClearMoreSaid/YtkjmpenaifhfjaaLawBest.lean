/- The law ClearBest: its walk. -/
import Derived.Test.YtkjmpenaifhfjaaLawPart
import Derived.Test.YtkjmpenaifhfjaaOver
namespace Go.Proofs.Ytkjmpenaifhfjaa
open Go.RowKit Go.Maps
open Go.ChangeMaps Go.WideMaps

/-- A clearing in a variable of its own. -/
def Boxed (W : World) (b : Nat) (A : Option Addr) (n c : Nat) (z : Int) : Prop := W.heap[b]? = some (.cells #[.slice A n c, .int .i64 z] 35 (0, 0))
section
variable {W W' : World} {b n c : Nat} {A : Option Addr} {z : Int}
theorem Boxed.new (W : World) (A : Option Addr) (n c : Nat) (z : Int) : Boxed (W.alloc (.cells #[.slice A n c, .int .i64 z] 35)) W.heap.size A n c z := heap_alloc_new W _
theorem Boxed.below (h : Boxed W b A n c z) {B : Nat} (hb : Below B W W') (hB : b < B) : Boxed W' b A n c z := (hb.block _ hB).trans h
theorem Boxed.lt (h : Boxed W b A n c z) : b < W.heap.size := lt_of_block h
theorem Boxed.grown (h : Boxed W b A n c z) {B m : Nat} {v : Value} {xs : List Value} (ho : W.ownsRow B 3 1 v m xs) (hg : W.grownBy W' v.ownBlock) : Boxed W' b A n c z :=
  (hg.block _ (lt_of_block h) (Ne.symm (own_ne ho h (by simp)))).trans h
theorem Boxed.c0 (h : Boxed W b A n c z) : W.cell? ⟨b, 0, none⟩ = some (.slice A n c) := cell_of_row W b 0 _ _ (0, 0) h
theorem Boxed.c1 (h : Boxed W b A n c z) : W.cell? ⟨b, 1, none⟩ = some (.int .i64 z) := cell_of_row W b 1 _ _ (0, 0) h
end
/-- Two rows of which one was made later. -/
theorem own_later {w w' : World} {B B' e e' s s' n n' : Nat} {v v' : Value} {xs xs' : List Value} (h : w.ownsRow B e s v n xs) (h' : w'.ownsRow B' e' s' v' n' xs') (hB : w.heap.size ≤ B') : v.ownBlock ≠ v'.ownBlock ∨ v.ownBlock = none := by
  cases hv : v.ownBlock with
  | none => exact .inr rfl
  | some g =>
    left
    intro e
    have h1 := (h.lt g hv).2
    have h2 := (h'.lt g e.symm).1
    omega
theorem own_earlier {w w' : World} {B B' e e' s s' n n' : Nat} {v v' : Value} {xs xs' : List Value} (h : w.ownsRow B e s v n xs) (h' : w'.ownsRow B' e' s' v' n' xs') (hB : w'.heap.size ≤ B) : v.ownBlock ≠ v'.ownBlock ∨ v.ownBlock = none := by
  cases hv : v.ownBlock with
  | none => exact .inr rfl
  | some g =>
    left
    intro e
    have h1 := (h.lt g hv).1
    have h2 := (h'.lt g e.symm).2
    omega
theorem best_len (n : Int) (ls : List (List Offer)) (hw : BWide ls) : (bestI n ls).1.1.length ≤ ls.length := partI_len n ls 0 (allI n) hw (allI_lt n)
theorem wide_set {ls : List (List Offer)} (h : BWide ls) (q : Nat) : BWide (ls.set q []) := fun l hl => by
  rcases List.mem_or_eq_of_mem_set hl with h1 | h1
  · exact h l h1
  · subst h1; exact fun o ho => by cases ho
theorem less_len (n : Int) (ls : List (List Offer)) (b : Int) (hw : BWide ls) : (lessI n ls b).1.1.length ≤ ls.length := by
  unfold lessI
  split
  · simp
  · have := best_len n (ls.set b.toNat []) (wide_set hw _)
    simpa using this

set_option maxRecDepth 100000 in
set_option maxHeartbeats 8000000 in
theorem clearBest_any (n : Int) (A : Option Addr) (c : Nat) (hs : List Hdr) (ls : List (List Offer)) (b : Int) (w : World) (h : Buys w w.heap.size A hs ls) (hl : ls.length ≤ maxLen) (hls : ∀ l ∈ ls, l.length ≤ maxLen) (hw : BWide ls) :
    Calls Try.prog 4 #[instV n A ls.length c, .int .i64 b] w (LawPost w) := by
  have HB0 : Hid (Below w.heap.size w (w.alloc (.cells #[.int .i64 n, .slice A ls.length c] 24))) := hide ((Below.refl _ _).alloc (Nat.le_refl _) _)
  have HX0 : Hid ((w.alloc (.cells #[.int .i64 n, .slice A ls.length c] 24)).heap[w.heap.size]? = some (.cells #[.int .i64 n, .slice A ls.length c] 24 (0, 0))) := hide (heap_alloc_new w _)
  have HLG := hide (large_any n A c hs ls _ (h.up HB0.out) (by unfold maxLen at hl; omega) (fun l hm => by have := hls l hm; unfold maxLen at this; omega))
  have HKN := hide (fun W => known_any W)
  have HA := hide h
  have HPL := hide (best_len n ls hw)
  have HPL2 := hide (less_len n ls b hw)
  have HBE : Hid (∀ (W : World) (A' : Option Addr) (c' : Nat) (hs' : List Hdr), Buys W W.heap.size A' hs' ls → ls.length ≤ 40 → (∀ l ∈ ls, l.length ≤ 20) → Calls Try.prog 16 #[instV n A' ls.length c'] W (ClearPost (bestI n ls) W)) := hide (fun W A' c' hs' h1 h2 h3 => best_any n A' c' hs' ls W h1 (by omega) (fun l hm => by have := h3 l hm; omega) hw)
  have HRB : Hid (∀ (W : World) (A' : Option Addr) (c' : Nat) (hs' : List Hdr), Buys W W.heap.size A' hs' ls → ls.length ≤ 40 → (∀ l ∈ ls, l.length ≤ 20) → Calls Try.prog 19 #[instV n A' ls.length c'] W (ClearPost (bestI n ls) W)) := hide (fun W A' c' hs' h1 h2 h3 => refbest_any n A' c' hs' ls W h1 (by omega) (fun l hm => by have := h3 l hm; omega) hw)
  have HLE : Hid (∀ (W : World) (A' : Option Addr) (c' : Nat) (hs' : List Hdr), Buys W W.heap.size A' hs' ls → NilB hs' → ls.length ≤ 40 → (∀ l ∈ ls, l.length ≤ 20) → Calls Try.prog 18 #[instV n A' ls.length c', .int .i64 b] W (ClearPost (lessI n ls b) W)) := hide (fun W A' c' hs' h1 hn h2 h3 => less_any n A' c' hs' ls b W h1 (by omega) (fun l hm => by have := h3 l hm; omega) hw hn)
  have HRL : Hid (∀ (W : World) (A' : Option Addr) (c' : Nat) (hs' : List Hdr), Buys W W.heap.size A' hs' ls → ls.length ≤ 40 → (∀ l ∈ ls, l.length ≤ 20) → Calls Try.prog 20 #[instV n A' ls.length c', .int .i64 b] W (ClearPost (lessI n ls b) W)) := hide (fun W A' c' hs' h1 h2 h3 => refless_any n A' c' hs' ls b W h1 (by omega) (fun l hm => by have := h3 l hm; omega) hw)
  have HWW : Hid (∀ (W : World) (A' : Option Addr) (c' : Nat) (hs' : List Hdr), Buys W W.heap.size A' hs' ls → ls.length ≤ 40 → (∀ l ∈ ls, l.length ≤ 20) → Calls Try.prog 17 #[instV n A' ls.length c'] W (ValPost (.tuple #[.int .i64 (bestI n ls).1.2, .int .i64 (bestI n ls).2]) W)) := hide (fun W A' c' hs' h1 h2 h3 => by
    have := W_any n A' c' hs' ls W h1 (by omega) (fun l hm => by have := h3 l hm; omega) hw
    unfold FromPost at this
    rw [from_part] at this
    exact this)
  generalize bestI n ls = R at *
  generalize lessI n ls b = R2 at *
  obtain ⟨⟨ch, bw⟩, er⟩ := R
  obtain ⟨⟨ch2, bw2⟩, er2⟩ := R2
  simp only at HPL HPL2 HWW
  clear h hl hls hw
  simp only [instV] at *
  go_enter Try.func4, Try.ntmps4
  go_wp2_with fail
  generalize w.alloc (.cells #[.int .i64 n, .slice A ls.length c] 24) = w0 at *
  refine (HLG.out).mono ?_
  rintro e w1 ⟨big, rfl, hbig, hb1⟩
  have HX1 : Hid (w1.heap[w.heap.size]? = some (.cells #[.int .i64 n, .slice A ls.length c] 24 (0, 0))) := hide ((hb1.block _ (lt_of_block HX0.out)).trans HX0.out)
  have HB1 : Hid (Below w.heap.size w w1) := hide (HB0.out.trans (hb1.mono HB0.out.size))
  have HBIG := hide hbig
  clear hb1 hbig
  cases big
  · obtain ⟨hl40, hl20⟩ := HBIG.out rfl
    have HL20 := hide hl20
    have x0 : w1.cell? ⟨w.heap.size, 0, none⟩ = some (.int .i64 n) := cell_of_row w1 w.heap.size 0 _ _ (0, 0) HX1.out
    have x1 : w1.cell? ⟨w.heap.size, 1, none⟩ = some (.slice A ls.length c) := cell_of_row w1 w.heap.size 1 _ _ (0, 0) HX1.out
    have HLE0 := hide (lent_any n A c hs ls w1 (HA.out.up HB1.out) hl40 hl20)
    clear hl20
    go_wp2_with fail
    refine (HLE0.out).mono ?_
    rintro e w2 ⟨A', c', hs', rfl, hown, hb2⟩
    have HO2 := hide hown
    have HB2 := hide hb2
    clear hown hb2 x0 x1
    simp only [instV]
    go_upto_region 4 with fail
    have HB3 : Hid (Below w2.heap.size w2 (w2.alloc (.cells #[.int .i64 n, .slice A' ls.length c'] 24))) := hide ((Below.refl _ _).alloc (Nat.le_refl _) _)
    have HY3 : Hid ((w2.alloc (.cells #[.int .i64 n, .slice A' ls.length c'] 24)).heap[w2.heap.size]? = some (.cells #[.int .i64 n, .slice A' ls.length c'] 24 (0, 0))) := hide (heap_alloc_new w2 _)
    generalize w2.alloc (.cells #[.int .i64 n, .slice A' ls.length c'] 24) = w3 at *
    have HBW3 : Hid (Below w.heap.size w w3) := hide ((HB1.out.trans (HB2.out.mono HB1.out.size)).trans (HB3.out.mono (by have := HB1.out.size; have := HB2.out.size; omega)))
    have HX3 : Hid (w3.heap[w.heap.size]? = some (.cells #[.int .i64 n, .slice A ls.length c] 24 (0, 0))) := hide ((HB3.out.block _ (by have := lt_of_block HX1.out; have := HB2.out.size; omega)).trans ((HB2.out.block _ (lt_of_block HX1.out)).trans HX1.out))
    have HO3 := hide (HO2.out.below HB3.out)
    have HXY : Hid (∀ W, Below w3.heap.size w3 W → W.cell? ⟨w.heap.size, 0, none⟩ = some (.int .i64 n) ∧ W.cell? ⟨w.heap.size, 1, none⟩ = some (.slice A ls.length c) ∧ W.cell? ⟨w2.heap.size, 0, none⟩ = some (.int .i64 n) ∧ W.cell? ⟨w2.heap.size, 1, none⟩ = some (.slice A' ls.length c')) := hide (fun W hW => ⟨cell_of_row W w.heap.size 0 _ _ (0, 0) ((hW.block _ (lt_of_block HX3.out)).trans HX3.out), cell_of_row W w.heap.size 1 _ _ (0, 0) ((hW.block _ (lt_of_block HX3.out)).trans HX3.out), cell_of_row W w2.heap.size 0 _ _ (0, 0) ((hW.block _ (lt_of_block HY3.out)).trans HY3.out), cell_of_row W w2.heap.size 1 _ _ (0, 0) ((hW.block _ (lt_of_block HY3.out)).trans HY3.out)⟩)
    have HBX : Hid (∀ W, Below w3.heap.size w3 W → Buys W W.heap.size A hs ls ∧ Buys W W.heap.size A' hs' ls) := hide (fun W hW => ⟨HA.out.up (HBW3.out.trans (hW.mono HBW3.out.size)), (HO3.out.below hW).buys⟩)
    have HNI : Hid (NilB hs') := hide HO3.out.nils
    have HZ3 : Hid (Below w3.heap.size w3 w3) := hide (Below.refl _ _)
    obtain ⟨x0, x1, x2, x3⟩ := HXY.out w3 (Below.refl _ _)
    go_wp2_with fail
    refine (HBE.out w3 A' c' hs' (HBX.out w3 HZ3.out).2 hl40 HL20.out).mono ?_
    rintro e w4 ⟨v4, rfl, hown4, hb4⟩
    obtain ⟨A4, c4, rfl, _⟩ := own_sh hown4
    have HW4 := hide hown4
    have HZ4 : Hid (Below w3.heap.size w3 w4) := hide (HZ3.out.trans (hb4.mono HZ3.out.size))
    have HS4 := hide hb4
    clear x0 x1 x2 x3 hown4 hb4
    go_upto_region 5 with fail
    have HS5 : Hid (Below w4.heap.size w4 (w4.alloc (.cells #[.slice A4 ch.length c4, .int .i64 bw] 35))) := hide ((Below.refl _ _).alloc (Nat.le_refl _) _)
    have HC4 : Hid (Boxed (w4.alloc (.cells #[.slice A4 ch.length c4, .int .i64 bw] 35)) w4.heap.size A4 ch.length c4 bw) := hide (Boxed.new _ _ _ _ _)
    generalize w4.alloc (.cells #[.slice A4 ch.length c4, .int .i64 bw] 35) = w5 at *
    have HZ5 : Hid (Below w3.heap.size w3 w5) := hide (HZ4.out.trans (HS5.out.mono HZ4.out.size))
    obtain ⟨x0, x1, x2, x3⟩ := HXY.out w5 HZ5.out
    go_wp2_with fail
    refine (HBE.out w5 A' c' hs' (HBX.out w5 HZ5.out).2 hl40 HL20.out).mono ?_
    rintro e w6 ⟨v6, rfl, hown6, hb6⟩
    obtain ⟨A6, c6, rfl, _⟩ := own_sh hown6
    have HW6 := hide hown6
    have HZ6 : Hid (Below w3.heap.size w3 w6) := hide (HZ5.out.trans (hb6.mono HZ5.out.size))
    have HS6 := hide hb6
    clear x0 x1 x2 x3 hown6 hb6
    go_upto_region 6 with fail
    have HS7 : Hid (Below w6.heap.size w6 (w6.alloc (.cells #[.slice A6 ch.length c6, .int .i64 bw] 35))) := hide ((Below.refl _ _).alloc (Nat.le_refl _) _)
    have HC6 : Hid (Boxed (w6.alloc (.cells #[.slice A6 ch.length c6, .int .i64 bw] 35)) w6.heap.size A6 ch.length c6 bw) := hide (Boxed.new _ _ _ _ _)
    generalize w6.alloc (.cells #[.slice A6 ch.length c6, .int .i64 bw] 35) = w7 at *
    have HZ7 : Hid (Below w3.heap.size w3 w7) := hide (HZ6.out.trans (HS7.out.mono HZ6.out.size))
    obtain ⟨x0, x1, x2, x3⟩ := HXY.out w7 HZ7.out
    go_wp2_with fail
    refine (HWW.out w7 A' c' hs' (HBX.out w7 HZ7.out).2 hl40 HL20.out).mono ?_
    rintro e w8 ⟨rfl, hb8⟩
    have HZ8 : Hid (Below w3.heap.size w3 w8) := hide (HZ7.out.trans (hb8.mono HZ7.out.size))
    have HS8 := hide hb8
    clear x0 x1 x2 x3 hb8
    obtain ⟨x0, x1, x2, x3⟩ := HXY.out w8 HZ8.out
    go_wp2_with fail
    refine (HLE.out w8 A' c' hs' (HBX.out w8 HZ8.out).2 HNI.out hl40 HL20.out).mono ?_
    rintro e w9 ⟨v9, rfl, hown9, hb9⟩
    obtain ⟨A9, c9, rfl, _⟩ := own_sh hown9
    have HW9 := hide hown9
    have HZ9 : Hid (Below w3.heap.size w3 w9) := hide (HZ8.out.trans (hb9.mono HZ8.out.size))
    have HS9 := hide hb9
    clear x0 x1 x2 x3 hown9 hb9
    go_upto_region 8 with fail
    have HS10 : Hid (Below w9.heap.size w9 (w9.alloc (.cells #[.slice A9 ch2.length c9, .int .i64 bw2] 35))) := hide ((Below.refl _ _).alloc (Nat.le_refl _) _)
    have HC9 : Hid (Boxed (w9.alloc (.cells #[.slice A9 ch2.length c9, .int .i64 bw2] 35)) w9.heap.size A9 ch2.length c9 bw2) := hide (Boxed.new _ _ _ _ _)
    generalize w9.alloc (.cells #[.slice A9 ch2.length c9, .int .i64 bw2] 35) = w10 at *
    have HZ10 : Hid (Below w3.heap.size w3 w10) := hide (HZ9.out.trans (HS10.out.mono HZ9.out.size))
    obtain ⟨x0, x1, x2, x3⟩ := HXY.out w10 HZ10.out
    go_wp2_with fail
    refine (HLE.out w10 A' c' hs' (HBX.out w10 HZ10.out).2 HNI.out hl40 HL20.out).mono ?_
    rintro e w11 ⟨v11, rfl, hown11, hb11⟩
    obtain ⟨A11, c11, rfl, _⟩ := own_sh hown11
    have HW11 := hide hown11
    have HZ11 : Hid (Below w3.heap.size w3 w11) := hide (HZ10.out.trans (hb11.mono HZ10.out.size))
    have HS11 := hide hb11
    clear x0 x1 x2 x3 hown11 hb11
    go_upto_region 9 with fail
    have HS12 : Hid (Below w11.heap.size w11 (w11.alloc (.cells #[.slice A11 ch2.length c11, .int .i64 bw2] 35))) := hide ((Below.refl _ _).alloc (Nat.le_refl _) _)
    have HC11 : Hid (Boxed (w11.alloc (.cells #[.slice A11 ch2.length c11, .int .i64 bw2] 35)) w11.heap.size A11 ch2.length c11 bw2) := hide (Boxed.new _ _ _ _ _)
    generalize w11.alloc (.cells #[.slice A11 ch2.length c11, .int .i64 bw2] 35) = w12 at *
    have HZ12 : Hid (Below w3.heap.size w3 w12) := hide (HZ11.out.trans (HS12.out.mono HZ11.out.size))
    obtain ⟨x0, x1, x2, x3⟩ := HXY.out w12 HZ12.out
    go_wp2_with fail
    refine (HRB.out w12 A c hs (HBX.out w12 HZ12.out).1 hl40 HL20.out).mono ?_
    rintro e w13 ⟨v13, rfl, hown13, hb13⟩
    obtain ⟨A13, c13, rfl, _⟩ := own_sh hown13
    have HW13 := hide hown13
    have HZ13 : Hid (Below w3.heap.size w3 w13) := hide (HZ12.out.trans (hb13.mono HZ12.out.size))
    have HS13 := hide hb13
    clear x0 x1 x2 x3 hown13 hb13
    go_upto_region 10 with fail
    have HS14 : Hid (Below w13.heap.size w13 (w13.alloc (.cells #[.slice A13 ch.length c13, .int .i64 bw] 35))) := hide ((Below.refl _ _).alloc (Nat.le_refl _) _)
    have HC13 : Hid (Boxed (w13.alloc (.cells #[.slice A13 ch.length c13, .int .i64 bw] 35)) w13.heap.size A13 ch.length c13 bw) := hide (Boxed.new _ _ _ _ _)
    generalize w13.alloc (.cells #[.slice A13 ch.length c13, .int .i64 bw] 35) = w14 at *
    have HZ14 : Hid (Below w3.heap.size w3 w14) := hide (HZ13.out.trans (HS14.out.mono HZ13.out.size))
    obtain ⟨x0, x1, x2, x3⟩ := HXY.out w14 HZ14.out
    go_wp2_with fail
    refine (HRL.out w14 A c hs (HBX.out w14 HZ14.out).1 hl40 HL20.out).mono ?_
    rintro e w15 ⟨v15, rfl, hown15, hb15⟩
    obtain ⟨A15, c15, rfl, _⟩ := own_sh hown15
    have HW15 := hide hown15
    have HZ15 : Hid (Below w3.heap.size w3 w15) := hide (HZ14.out.trans (hb15.mono HZ14.out.size))
    have HS15 := hide hb15
    clear x0 x1 x2 x3 hown15 hb15
    go_upto_region 11 with fail
    have HS16 : Hid (Below w15.heap.size w15 (w15.alloc (.cells #[.slice A15 ch2.length c15, .int .i64 bw2] 35))) := hide ((Below.refl _ _).alloc (Nat.le_refl _) _)
    have HC15 : Hid (Boxed (w15.alloc (.cells #[.slice A15 ch2.length c15, .int .i64 bw2] 35)) w15.heap.size A15 ch2.length c15 bw2) := hide (Boxed.new _ _ _ _ _)
    generalize w15.alloc (.cells #[.slice A15 ch2.length c15, .int .i64 bw2] 35) = w16 at *
    have HZ16 : Hid (Below w3.heap.size w3 w16) := hide (HZ15.out.trans (HS16.out.mono HZ15.out.size))
    obtain ⟨x0, x1, x2, x3⟩ := HXY.out w16 HZ16.out
    have hz : ∀ {u v x : World}, Below u.heap.size u v → Below v.heap.size v x → Below u.heap.size u x := fun h1 h2 => h1.trans (h2.mono h1.size)
    have H1516 := hide HS16.out
    have H1416 := hide (hz HS15.out H1516.out)
    have H1316 := hide (hz HS14.out H1416.out)
    have H1216 := hide (hz HS13.out H1316.out)
    have H1116 := hide (hz HS12.out H1216.out)
    have H1016 := hide (hz HS11.out H1116.out)
    have H916 := hide (hz HS10.out H1016.out)
    have H816 := hide (hz HS9.out H916.out)
    have H716 := hide (hz HS8.out H816.out)
    have H616 := hide (hz HS7.out H716.out)
    have H516 := hide (hz HS6.out H616.out)
    have H416 := hide (hz HS5.out H516.out)
    clear hz
    have B4 := hide (HC4.out.below H516.out HC4.out.lt)
    have B6 := hide (HC6.out.below H716.out HC6.out.lt)
    have B9 := hide (HC9.out.below H1016.out HC9.out.lt)
    have B11 := hide (HC11.out.below H1216.out HC11.out.lt)
    have B13 := hide (HC13.out.below H1416.out HC13.out.lt)
    have B15 := hide HC15.out
    have O4 := hide (own_below HW4.out H416.out (Nat.le_refl _))
    have O6 := hide (own_below HW6.out H616.out (Nat.le_refl _))
    have O9 := hide (own_below HW9.out H916.out (Nat.le_refl _))
    have O11 := hide (own_below HW11.out H1116.out (Nat.le_refl _))
    have O13 := hide (own_below HW13.out H1316.out (Nat.le_refl _))
    have O15 := hide (own_below HW15.out H1516.out (Nat.le_refl _))
    have N64 := hide (own_earlier HW6.out HW4.out HS5.out.size)
    have N69 := hide (own_later HW6.out HW9.out (Nat.le_trans HS7.out.size HS8.out.size))
    have N11_4 := hide (own_earlier HW11.out HW4.out (by have := HS5.out.size; have := HS6.out.size; have := HS7.out.size; have := HS8.out.size; have := HS9.out.size; have := HS10.out.size; omega))
    have N11_9 := hide (own_earlier HW11.out HW9.out HS10.out.size)
    have N13_4 := hide (own_earlier HW13.out HW4.out (by have := HS5.out.size; have := HS6.out.size; have := HS7.out.size; have := HS8.out.size; have := HS9.out.size; have := HS10.out.size; have := HS11.out.size; have := HS12.out.size; omega))
    have N13_9 := hide (own_earlier HW13.out HW9.out (by have := HS10.out.size; have := HS11.out.size; have := HS12.out.size; omega))
    have N15_4 := hide (own_earlier HW15.out HW4.out (by have := HS5.out.size; have := HS6.out.size; have := HS7.out.size; have := HS8.out.size; have := HS9.out.size; have := HS10.out.size; have := HS11.out.size; have := HS12.out.size; have := HS13.out.size; have := HS14.out.size; omega))
    have N15_9 := hide (own_earlier HW15.out HW9.out (by have := HS10.out.size; have := HS11.out.size; have := HS12.out.size; have := HS13.out.size; have := HS14.out.size; omega))
    have N9_4 := hide (own_earlier HW9.out HW4.out (by have := HS5.out.size; have := HS6.out.size; have := HS7.out.size; have := HS8.out.size; omega))
    have hz3 : w3.heap.size ≤ w4.heap.size := by have := HS4.out.size; exact this
    have HSZ : Hid (w3.heap.size ≤ w8.heap.size) := hide (by have := HS5.out.size; have := HS6.out.size; have := HS7.out.size; have := HS8.out.size; omega)
    clear hz3
    have hle : ch.length ≤ 1000000 := by have := HPL.out; omega
    have hle2 : ch2.length ≤ 1000000 := by have := HPL2.out; omega
    have HONE : Hid (∀ {W : World} {B : Nat} {A : Option Addr} {c : Nat} {l : List Int}, W.ownsRow B 3 1 (.slice A l.length c) l.length (l.map intV) → One intV W W.heap.size A l) := hide (fun h => One.of_own h rfl)
    clear HS5 HS6 HS7 HS8 HS9 HS10 HS11 HS12 HS13 HS14 HS15 HS16 HW4 HW6 HW9 HW11 HW13 HW15 HC4 HC6 HC9 HC11 HC13 HC15 H1516 H1416 H1316 H1216 H1116 H1016 H916 H816 H716 H616 H516 H416
    have a0 := B4.out.c0
    have a1 := B4.out.c1
    have d0 := B13.out.c0
    have d1 := B13.out.c1
    have HSA := hide (same_eq A4 c4 A13 c13 ch bw w16 (HONE.out O4.out) (HONE.out O13.out) hle)
    go_wp2_with fail
    refine (HSA.out).mono ?_
    rintro e w17 ⟨rfl, hb17⟩
    have HZ17 : Hid (Below w3.heap.size w3 w17) := hide (HZ16.out.trans (hb17.mono HZ16.out.size))
    have C4 := hide (B4.out.below hb17 B4.out.lt)
    have C6 := hide (B6.out.below hb17 B6.out.lt)
    have C9 := hide (B9.out.below hb17 B9.out.lt)
    have C11 := hide (B11.out.below hb17 B11.out.lt)
    have C13 := hide (B13.out.below hb17 B13.out.lt)
    have C15 := hide (B15.out.below hb17 B15.out.lt)
    have P4 := hide (own_below O4.out hb17 (Nat.le_refl _))
    have P6 := hide (own_below O6.out hb17 (Nat.le_refl _))
    have P9 := hide (own_below O9.out hb17 (Nat.le_refl _))
    have P11 := hide (own_below O11.out hb17 (Nat.le_refl _))
    have P13 := hide (own_below O13.out hb17 (Nat.le_refl _))
    have P15 := hide (own_below O15.out hb17 (Nat.le_refl _))
    clear x0 x1 x2 x3 a0 a1 d0 d1 hb17 B4 B6 B9 B11 B13 B15 O4 O6 O9 O11 O13 O15
    have d1 := C13.out.c1
    have a0 := C9.out.c0
    have a1 := C9.out.c1
    have f0 := C15.out.c0
    have f1 := C15.out.c1
    have HSC := hide (same_eq A9 c9 A15 c15 ch2 bw2 w17 (HONE.out P9.out) (HONE.out P15.out) hle2)
    go_wp2_with fail
    refine (HSC.out).mono ?_
    rintro e w18 ⟨rfl, hb18⟩
    have HZ18 : Hid (Below w3.heap.size w3 w18) := hide (HZ17.out.trans (hb18.mono HZ17.out.size))
    have HS18 := hide hb18
    clear a0 a1 d1 f0 f1 hb18
    obtain ⟨x0, x1, x2, x3⟩ := HXY.out w18 HZ18.out
    have HKE := hide (kept_any n _ A' c' hs' A c hs ls w18 (HO3.out.below HZ18.out) (HBX.out w18 HZ18.out).1 hl40 HL20.out)
    go_wp2_with fail
    refine (HKE.out).mono ?_
    rintro e w19 ⟨rfl, hb19⟩
    have HZ19 : Hid (Below w3.heap.size w3 w19) := hide (HZ18.out.trans (hb19.mono HZ18.out.size))
    have hb1719 := HS18.out.trans (hb19.mono HS18.out.size)
    have D4 := hide (C4.out.below hb1719 C4.out.lt)
    have D6 := hide (C6.out.below hb1719 C6.out.lt)
    have D9 := hide (C9.out.below hb1719 C9.out.lt)
    have D11 := hide (C11.out.below hb1719 C11.out.lt)
    have D13 := hide (C13.out.below hb1719 C13.out.lt)
    have D15 := hide (C15.out.below hb1719 C15.out.lt)
    have Q4 := hide (own_below P4.out hb1719 (Nat.le_refl _))
    have Q6 := hide (own_below P6.out hb1719 (Nat.le_refl _))
    have Q9 := hide (own_below P9.out hb1719 (Nat.le_refl _))
    have Q11 := hide (own_below P11.out hb1719 (Nat.le_refl _))
    have Q13 := hide (own_below P13.out hb1719 (Nat.le_refl _))
    have Q15 := hide (own_below P15.out hb1719 (Nat.le_refl _))
    clear x0 x1 x2 x3 hb19 hb1719 C4 C6 C9 C11 C13 C15 P4 P6 P9 P11 P13 P15
    have a0 := D4.out.c0
    have HOV := hide (over_any _ A4 c4 ch w19 Q4.out hle)
    go_wp2_with fail
    refine (HOV.out).mono ?_
    rintro e w20 ⟨rfl, hg20, hz20⟩
    have HB20 : Hid (Below w3.heap.size w3 w20) := hide (HZ19.out.grown hg20 HZ19.out.size (fun j hj => (Q4.out.lt j hj).1))
    have E6 := hide (D6.out.grown Q4.out hg20)
    have E9 := hide (D9.out.grown Q4.out hg20)
    have E11 := hide (D11.out.grown Q4.out hg20)
    have E13 := hide (D13.out.grown Q4.out hg20)
    have E15 := hide (D15.out.grown Q4.out hg20)
    have R6 := hide (own_far Q6.out hg20 N64.out)
    have R9 := hide (own_far Q9.out hg20 N9_4.out)
    have R11 := hide (own_far Q11.out hg20 N11_4.out)
    have R13 := hide (own_far Q13.out hg20 N13_4.out)
    have R15 := hide (own_far Q15.out hg20 N15_4.out)
    clear hg20 a0 D4 D6 D9 D11 D13 D15 Q4 Q6 Q9 Q11 Q13 Q15
    have a0 := E9.out.c0
    have HOW := hide (over_any _ A9 c9 ch2 w20 R9.out hle2)
    go_wp2_with fail
    refine (HOW.out).mono ?_
    rintro e w21 ⟨rfl, hg21, hz21⟩
    have HB21 : Hid (Below w3.heap.size w3 w21) := hide (HB20.out.grown hg21 HB20.out.size (fun j hj => by have := (R9.out.lt j hj).1; have := HSZ.out; omega))
    have F6 := hide (E6.out.grown R9.out hg21)
    have F11 := hide (E11.out.grown R9.out hg21)
    have F13 := hide (E13.out.grown R9.out hg21)
    have F15 := hide (E15.out.grown R9.out hg21)
    have S6 := hide (own_far R6.out hg21 N69.out)
    have S11 := hide (own_far R11.out hg21 N11_9.out)
    have S13 := hide (own_far R13.out hg21 N13_9.out)
    have S15 := hide (own_far R15.out hg21 N15_9.out)
    clear hg21 a0 E6 E9 E11 E13 E15 R6 R9 R11 R13 R15
    have a0 := F6.out.c0
    have a1 := F6.out.c1
    have d0 := F13.out.c0
    have d1 := F13.out.c1
    have HSB := hide (same_eq A6 c6 A13 c13 ch bw w21 (HONE.out S6.out) (HONE.out S13.out) hle)
    go_wp2_with fail
    refine (HSB.out).mono ?_
    rintro e w22 ⟨rfl, hb22⟩
    have HB22 : Hid (Below w3.heap.size w3 w22) := hide (HB21.out.trans (hb22.mono HB21.out.size))
    have G11 := hide (F11.out.below hb22 F11.out.lt)
    have G15 := hide (F15.out.below hb22 F15.out.lt)
    have T11 := hide (own_below S11.out hb22 (Nat.le_refl _))
    have T15 := hide (own_below S15.out hb22 (Nat.le_refl _))
    clear a0 a1 d0 d1 hb22 F6 F11 F13 F15 S6 S11 S13 S15
    have a0 := G11.out.c0
    have a1 := G11.out.c1
    have d0 := G15.out.c0
    have d1 := G15.out.c1
    have HSD := hide (same_eq A11 c11 A15 c15 ch2 bw2 w22 (HONE.out T11.out) (HONE.out T15.out) hle2)
    go_wp2_with fail
    refine (HSD.out).mono ?_
    rintro e w23 ⟨rfl, hb23⟩
    have HB23 : Hid (Below w3.heap.size w3 w23) := hide (HB22.out.trans (hb23.mono HB22.out.size))
    clear a0 a1 d0 d1 hb23
    go_wp2_with fail
    refine (HKN.out w23).mono ?_
    rintro e w24 ⟨rfl, hb24⟩
    have HB24 : Hid (Below w.heap.size w w24) := hide (HBW3.out.trans ((HB23.out.trans (hb24.mono HB23.out.size)).mono HBW3.out.size))
    clear hb24
    go_wp2_with fail
    go_ret
    exact ⟨rfl, HB24.out⟩
  · go_wp2_with fail
    refine (HKN.out w1).mono ?_
    rintro e w2 ⟨rfl, hb2⟩
    have HB2 : Hid (Below w.heap.size w w2) := hide (HB1.out.trans (hb2.mono HB1.out.size))
    clear hb2
    go_wp2_with fail
    go_ret
    exact ⟨rfl, HB2.out⟩
end Go.Proofs.Ytkjmpenaifhfjaa
