/- The walk of gavelref15.All: the first choices of the greatest worth. -/
import Derived.Test.YtkjmpenaifhfjaaAllT
namespace Go.Proofs.Ytkjmpenaifhfjaa
open Go.RowKit Go.Maps
open Go.ChangeMaps Go.WideMaps

def allC (n : Int) (ls : List (List Offer)) : List (List Int) := if instE n ls = 0 then choicesW ls (allG n.toNat) else []
def AllRP (n : Int) (ls : List (List Offer)) (most : Nat) (w : World) (e : Ending) (w' : World) : Prop :=
  ∃ v vs, e = .returned v ∧ OwnLL w' w.heap.size v vs ((allC n ls).take most) ∧ Below w.heap.size w w'
theorem OwnLL.base_ {w : World} {base b : Nat} {v : Value} {vs : List Value} {out : List (List Int)} (h : OwnLL w base v vs out) (hb : b ≤ base) : OwnLL w b v vs out :=
  ⟨own_base h.hdr hb, fun i u l hu hl => own_base (h.row i u l hu hl) hb⟩
theorem OwnLL.none_ (w : World) (base : Nat) : OwnLL w base (.slice none 0 0) [] [] := ⟨World.ownsRow_nil _ _ _ _, fun i u l hu => by simp at hu⟩

set_option maxRecDepth 100000 in
set_option maxHeartbeats 4000000 in
theorem refall_any (n : Int) (A : Option Addr) (c : Nat) (hs : List Hdr) (ls : List (List Offer)) (most : Nat) (w : World) (h : Buys w w.heap.size A hs ls) (hl : ls.length ≤ 1000000) (hls : BLens ls) (hw : BWide ls) (hmo : most ≤ 1000) :
    Calls Try.prog 22 #[instV n A ls.length c, .int .i64 (most : Int)] w (AllRP n ls most w) := by
  have HB0 : Hid (Below w.heap.size w (w.alloc (.cells #[.int .i64 n, .slice A ls.length c] 24))) := hide ((Below.refl _ _).alloc (Nat.le_refl _) _)
  have HX0 : Hid ((w.alloc (.cells #[.int .i64 n, .slice A ls.length c] 24)).heap[w.heap.size]? = some (.cells #[.int .i64 n, .slice A ls.length c] 24 (0, 0))) := hide (heap_alloc_new w _)
  have HI := hide (inst08_any n A c hs ls _ (h.up HB0.out) hl hls hw)
  have HA := hide h
  by_cases h1 : instE n ls = 0
  · have hg := instE_good hw h1
    obtain ⟨nn, rfl⟩ : ∃ nn : Nat, n = nn := ⟨n.toNat, by have := hg.lo; omega⟩
    have HG := hide hg
    have HAC : Hid (allC (nn : Int) ls = choicesW ls (allG nn)) := hide (by unfold allC; rw [if_pos h1, Int.toNat_natCast])
    have HTB : Hid (∀ W, Below w.heap.size w W → Calls Try.prog 33 #[instV (nn : Int) A ls.length c] W (TabPost (nn : Int) ls W)) := hide (fun W hb => table_any nn A c hs ls W (h.up hb) hg)
    have HWH := hide (fun W => refwhole_any (nn : Int) hg.lo hg.hi A ls.length c W)
    have hal : (allI (nn : Int) : Int) = ((allG nn : Nat) : Int) := by
      unfold allI
      rw [if_neg (by have := hg.lo; have := hg.hi; omega), Int.toNat_natCast]
    rw [h1] at HI
    rw [hal] at HWH
    have hagl : allG nn < 4294967296 := allG_lt nn (by have := hg.hi; omega)
    have HLT : Hid (allG nn < 2 ^ nn) := hide (by unfold allG; have := Nat.one_le_two_pow (n := nn); omega)
    have hwr : IntKind.i64.wrap ((allG nn : Nat) : Int) = ((allG nn : Nat) : Int) := Go.IntWalk.i64_in _ (by omega)
    clear h hls hw h1 hg hal
    simp only [instV] at *
    go_enter Try.func22, Try.ntmps22
    go_upto_region 1 with fail
    generalize w.alloc (.cells #[.int .i64 (nn : Int), .slice A ls.length c] 24) = w1 at *
    have x0 := cell_of_row w1 w.heap.size 0 _ _ (0, 0) HX0.out
    have x1 := cell_of_row w1 w.heap.size 1 _ _ (0, 0) HX0.out
    simp at x0 x1
    go_upto_region 3 with (go_at_call 37; refine (HI.out).mono ?_; rintro e w2 ⟨rfl, hb2⟩; have HB2 : Hid (Below w.heap.size w w2) := hide (HB0.out.trans (hb2.mono HB0.out.size)); have HX2 := hide ((hb2.block _ (lt_of_block HX0.out)).trans HX0.out); clear hb2)
    have y0 := cell_of_row w2 w.heap.size 0 _ _ (0, 0) HX2.out
    have y1 := cell_of_row w2 w.heap.size 1 _ _ (0, 0) HX2.out
    simp at y0 y1
    clear x0 x1
    have hS0 := And.intro y0 y1
    refine wp_region_U 7 (fun X => X.cell? ⟨w.heap.size, 0, none⟩ = some (.int .i64 (nn : Int)) ∧ X.cell? ⟨w.heap.size, 1, none⟩ = some (.slice A ls.length c)) rfl hS0 (fun hHeld => ?_)
    clear y0 y1
    refine AnyU.take (i := 0) (v := ?v1) rfl (by kernel_rfl) (by kernel_rfl) (by kernel_rfl) (by kernel_rfl) (fun _ _ _ h => h) (Or.inl ⟨by rfl, ?hy1⟩) hHeld ?r1
    case hy1 => (intro w hSw; (try dsimp only at hSw); go_simp <;> with_reducible rfl)
    simp only [Act.put, List.setIfInBounds_toArray, List.set_cons_zero, List.set_cons_succ]
    refine AnyU.take (i := 1) (v := ?v2) rfl (by kernel_rfl) (by kernel_rfl) (by kernel_rfl) (by kernel_rfl) (fun _ _ _ h => h) (Or.inl ⟨by rfl, ?hy2⟩) hHeld ?r2
    case hy2 => (intro w hSw; (try dsimp only at hSw); go_simp <;> with_reducible rfl)
    simp only [Act.put, List.setIfInBounds_toArray, List.set_cons_zero, List.set_cons_succ]
    refine AnyU.take (i := 3) (v := ?v3) rfl (by kernel_rfl) (by kernel_rfl) (by kernel_rfl) (by kernel_rfl) (fun _ _ _ h => h) (Or.inl ⟨by rfl, ?hy3⟩) hHeld ?r3
    case hy3 => (intro w hSw; (try dsimp only at hSw); go_simp <;> with_reducible rfl)
    simp only [Act.put, List.setIfInBounds_toArray, List.set_cons_zero, List.set_cons_succ]
    refine AnyU.next (js := [2]) (by kernel_rfl) (by simp) (NextU.cons rfl (fun K hK => ?_) NextU.nil)
    go_simp
    refine (HTB.out w2.drew HB2.out.drew).mono ?_
    rintro e w3 ⟨H, rfl, htab, hb3⟩
    have HT3 := hide htab
    have HB3 : Hid (Below w.heap.size w w3) := hide (HB2.out.drew.trans (hb3.mono HB2.out.size))
    have HX3 := hide ((hb3.block _ (lt_of_block HX2.out)).trans HX2.out)
    have z0 : w3.cell? ⟨w.heap.size, 0, none⟩ = some (.int .i64 (nn : Int)) := cell_of_row w3 w.heap.size 0 _ _ (0, 0) HX3.out
    have z1 : w3.cell? ⟨w.heap.size, 1, none⟩ = some (.slice A ls.length c) := cell_of_row w3 w.heap.size 1 _ _ (0, 0) HX3.out
    have HS3 := hide (And.intro z0 z1)
    clear htab hb3 z0 z1 hS0 hHeld
    go_wp2_with fail
    refine hK.out _ _ (fun _ => HS3.out) (fun hHeld => ?_)
    replace hHeld := hHeld (by decide)
    try simp only [Act.put, List.setIfInBounds_toArray, List.set_cons_zero, List.set_cons_succ]
    refine AnyU.take (i := 4) (v := ?v4) rfl (by kernel_rfl) (by kernel_rfl) (by kernel_rfl) (by kernel_rfl) (fun _ _ _ h => h) (Or.inl ⟨by rfl, ?hy4⟩) hHeld ?r4
    case hy4 => (intro w hSw; (try dsimp only at hSw); go_simp <;> with_reducible rfl)
    simp only [Act.put, List.setIfInBounds_toArray, List.set_cons_zero, List.set_cons_succ]
    have HB4 : Hid (Below w3.heap.size w3 (w3.alloc (.cells #[.int .i64 (nn : Int), .slice A ls.length c, .slice (some ⟨H, 0, none⟩) (ls.length + 1) (ls.length + 1), .int .i64 (most : Int), .slice none 0 0] 82))) := hide ((Below.refl _ _).alloc (Nat.le_refl _) _)
    have HX4 := hide ((HB4.out.block _ (lt_of_block HX3.out)).trans HX3.out)
    have HR4 : Hid (RS w3.heap.size nn A c hs ls H (2 ^ nn) most (.slice none 0 0) [] [] (w3.alloc (.cells #[.int .i64 (nn : Int), .slice A ls.length c, .slice (some ⟨H, 0, none⟩) (ls.length + 1) (ls.length + 1), .int .i64 (most : Int), .slice none 0 0] 82))) := hide (by
      refine ⟨heap_alloc_new w3 _, OwnLL.none_ _ _, ((HA.out.up HB3.out).below HB4.out), ?_⟩
      obtain ⟨_, ht1, ht2⟩ := HT3.out
      refine ⟨ht1, fun k hk => ?_⟩
      obtain ⟨g, u1, u2, u3, u4⟩ := ht2 k hk
      rw [Int.toNat_natCast] at u3 u4
      exact ⟨g, u2, (HB4.out.cell (p := ⟨H, k, none⟩) ht1).trans u3, fun f hf => (HB4.out.cell (p := ⟨g, f, none⟩) u2).trans (u4 f hf)⟩)
    have z0 := cell_of_row _ w.heap.size 0 _ _ (0, 0) HX4.out
    have z1 := cell_of_row _ w.heap.size 1 _ _ (0, 0) HX4.out
    simp only [List.getElem?_toArray, List.getElem?_cons_zero, List.getElem?_cons_succ] at z0 z1
    have HS4 := hide (And.intro z0 z1)
    have HBW : Hid (Below w.heap.size w (w3.alloc (.cells #[.int .i64 (nn : Int), .slice A ls.length c, .slice (some ⟨H, 0, none⟩) (ls.length + 1) (ls.length + 1), .int .i64 (most : Int), .slice none 0 0] 82))) := hide (HB3.out.trans (HB4.out.mono HB3.out.size))
    refine AnyU.next (js := [5]) (by kernel_rfl) (by simp) (NextU.cons rfl (fun K hK => ?_) NextU.nil)
    go_simp
    refine hK.out _ _ (fun _ => HS4.out) (fun hHeld => ?_)
    replace hHeld := hHeld (by decide)
    try simp only [Act.put, List.setIfInBounds_toArray, List.set_cons_zero, List.set_cons_succ]
    refine AnyU.take (i := 6) (v := ?v5) rfl (by kernel_rfl) (by kernel_rfl) (by kernel_rfl) (by kernel_rfl) (fun _ _ _ h => h) (Or.inl ⟨by rfl, ?hy5⟩) hHeld ?r5
    case hy5 => (intro w hSw; (try dsimp only at hSw); go_simp <;> with_reducible rfl)
    simp only [Act.put, List.setIfInBounds_toArray, List.set_cons_zero, List.set_cons_succ]
    refine AnyU.over (by kernel_rfl) ?_ _
    clear hHeld
    generalize w3.alloc (.cells #[.int .i64 (nn : Int), .slice A ls.length c, .slice (some ⟨H, 0, none⟩) (ls.length + 1) (ls.length + 1), .int .i64 (most : Int), .slice none 0 0] 82) = w4 at *
    have HON : Hid (∀ X, RS w3.heap.size nn A c hs ls H (2 ^ nn) most (.slice none 0 0) [] [] X → Calls Try.prog 40 #[.pointer (some ⟨w3.heap.size, 0, none⟩), .int .i64 0, .int .i64 (allG nn : Int), .slice none 0 0] X (OnR w3.heap.size nn A c hs ls H (2 ^ nn) most 0 (allG nn) [] (.slice none 0 0) [] X)) := hide (fun X hX =>
      onr_all w3.heap.size nn A c hs ls H (2 ^ nn) most HG.out rfl hmo ls.length 0 (by omega) (allG nn) [] 0 (.slice none 0 0) (.slice none 0 0) [] [] X HLT.out hX (World.ownsRow_nil _ _ _ _) rfl (Nat.zero_le _))
    have HSZ : Hid (w.heap.size ≤ w3.heap.size) := hide HB3.out.size
    clear HTB HX0 HX2 HX3 HX4 HT3 HB4
    go_wp2_with (first | (go_at_call 38; refine (HWH.out w4).mono ?_; rintro e w5 ⟨rfl, hb5⟩; have HR5 := hide (HR4.out.below hb5); have HB5 : Hid (Below w.heap.size w w5) := hide (HBW.out.trans (hb5.mono HBW.out.size)); clear hb5) | (go_at_call 40; refine (HON.out w5 HR5.out).mono ?_; rintro e w6 ⟨rfl, v6, vs6, hr6, hs6⟩; have HR6 := hide hr6; have HB6 : Hid (Below w.heap.size w w6) := hide (HB5.out.trans (hs6.bel.mono HSZ.out)); obtain ⟨_, _, _, _, k4, _⟩ := hr6.cells; clear hr6 hs6))
    go_ret
    refine ⟨v6, vs6, rfl, ?_, HB6.out⟩
    have ho := HR6.out.out
    rw [List.nil_append, List.drop_zero] at ho
    rw [HAC.out]
    simp only [List.nil_append, List.map_id'] at ho
    exact ho.base_ (by have := HSZ.out; omega)
  · have HAC : Hid (allC n ls = []) := hide (by unfold allC; rw [if_neg h1])
    have h1' : (instE n ls != 0) = true := by simpa using h1
    clear h1 h hw hls
    simp only [instV] at *
    go_enter Try.func22, Try.ntmps22
    go_upto_region 1 with fail
    generalize w.alloc (.cells #[.int .i64 n, .slice A ls.length c] 24) = w1 at *
    have x0 := cell_of_row w1 w.heap.size 0 _ _ (0, 0) HX0.out
    have x1 := cell_of_row w1 w.heap.size 1 _ _ (0, 0) HX0.out
    simp at x0 x1
    go_wp2_with (go_at_call 37; refine (HI.out).mono ?_; rintro e w2 ⟨rfl, hb2⟩; have HB2 : Hid (Below w.heap.size w w2) := hide (HB0.out.trans (hb2.mono HB0.out.size)); clear hb2)
    go_ret
    exact ⟨.slice none 0 0, [], rfl, by rw [HAC.out, List.take_nil]; exact OwnLL.none_ _ _, HB2.out⟩
end Go.Proofs.Ytkjmpenaifhfjaa
