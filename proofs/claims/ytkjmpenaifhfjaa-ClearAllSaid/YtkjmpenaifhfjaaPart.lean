/- The walks of clear.Part, clear.Best, clear.Without: what they compute. -/
import Derived.Test.YtkjmpenaifhfjaaFirst
import Derived.Test.YtkjmpenaifhfjaaWith
import Derived.Deep.CutRange
namespace Go.Proofs.Ytkjmpenaifhfjaa
open Go.RowKit Go.Maps
open Go.ChangeMaps Go.WideMaps

abbrev ClearT := List Int × Int
def partI (n : Int) (ls : List (List Offer)) (k : Int) (f : Nat) : ClearT × Int := if mayE n ls k f ≠ 0 then (([], 0), mayE n ls k f) else ((choiceK ls k.toNat f, bestW (ls.drop k.toNat) f), 0)
def bestI (n : Int) (ls : List (List Offer)) : ClearT × Int := partI n ls 0 (allI n)
def lessI (n : Int) (ls : List (List Offer)) (b : Int) : ClearT × Int := if withE n ls b [] ≠ 0 then (([], 0), withE n ls b []) else bestI n (ls.set b.toNat [])
/-- A clearing that the call has made. -/
def ClearPost (r : ClearT × Int) (w : World) (e : Ending) (w' : World) : Prop :=
  ∃ v, e = .returned (.tuple #[.agg #[v, .int .i64 r.1.2], .int .i64 r.2]) ∧ w'.ownsRow w.heap.size 3 1 v r.1.1.length (r.1.1.map (Value.int .i64)) ∧ Below w.heap.size w w'

theorem allI_lt (n : Int) : allI n < 4294967296 := by
  unfold allI
  split
  · omega
  · exact allG_lt _ (by omega)

set_option maxRecDepth 100000 in
set_option maxHeartbeats 2000000 in
theorem part_any (n : Int) (A : Option Addr) (c : Nat) (hs : List Hdr) (ls : List (List Offer)) (k : Int) (f : Nat) (w : World) (h : Buys w w.heap.size A hs ls) (hl : ls.length ≤ 1000000) (hls : BLens ls) (hw : BWide ls) (hf : f < 4294967296) :
    Calls Try.prog 12 #[instV n A ls.length c, .int .i64 k, .int .u32 (f : Int)] w (ClearPost (partI n ls k f) w) := by
  have HB : Hid (Below w.heap.size w ((w.alloc (.cells #[.int .i64 n, .slice A ls.length c] 24)).alloc (.cells #[.slice none 0 0, .int .i64 0] 35))) := hide (((Below.refl _ _).alloc (Nat.le_refl _) _).alloc (by simp) _)
  have HI := hide (may_any n A c hs ls k f _ (h.up HB.out) hl hls hw hf)
  have HX : Hid (((w.alloc (.cells #[.int .i64 n, .slice A ls.length c] 24)).alloc (.cells #[.slice none 0 0, .int .i64 0] 35)).heap[w.heap.size]? = some (.cells #[.int .i64 n, .slice A ls.length c] 24 (0, 0)) ∧
      ((w.alloc (.cells #[.int .i64 n, .slice A ls.length c] 24)).alloc (.cells #[.slice none 0 0, .int .i64 0] 35)).heap[w.heap.size + 1]? = some (.cells #[.slice none 0 0, .int .i64 0] 35 (0, 0))) := hide ⟨by
    rw [Below.heap_alloc _ _ _ (by simp)]; exact heap_alloc_new w _, by
    have := heap_alloc_new (w.alloc (.cells #[.int .i64 n, .slice A ls.length c] 24)) (.cells #[.slice none 0 0, .int .i64 0] 35)
    simpa using this⟩
  by_cases h1 : mayE n ls k f = 0
  · obtain ⟨hg, hk0, hkl, hft⟩ := mayE_good hw hf h1
    have HR : Hid (partI n ls k f = ((choiceK ls k.toNat f, bestW (ls.drop k.toNat) f), 0)) := hide (by unfold partI; rw [if_neg (by simpa using h1)])
    rw [h1] at HI
    obtain ⟨q, rfl⟩ : ∃ q : Nat, k = q := ⟨k.toNat, by omega⟩
    have HOF : Hid (∀ W, Below w.heap.size w W → Calls Try.prog 29 #[instV n A ls.length c] W (OfPost n A c hs ls W)) := hide (fun W hb => of_any n A c hs ls W (h.up hb))
    have HF : Hid (∀ B p m W, Board W B p m n A c hs ls → Calls Try.prog 31 #[.pointer (some ⟨p, 0, none⟩), .int .i64 (q : Int), .int .u32 (f : Int)] W (FirstPost ls q f m W)) :=
      hide (fun B p m W hb => first_any B p m n A c hs ls hg q (by omega) f W hft hb)
    rw [Int.toNat_natCast] at HR
    have HLEN := hide (choiceK_len ls q f (by omega))
    clear h1 hg h hw hft
    simp only [instV] at *
    go_enter Try.func12, Try.ntmps12
    go_wp2_with (first | (go_at_call 28; refine (HI.out).mono ?_; rintro e w1 ⟨rfl, hb1⟩; have HX1 : Hid (w1.heap[w.heap.size]? = some (.cells #[.int .i64 n, .slice A ls.length c] 24 (0, 0)) ∧ w1.heap[w.heap.size + 1]? = some (.cells #[.slice none 0 0, .int .i64 0] 35 (0, 0))) := hide ⟨(hb1.block _ (by simp; omega)).trans HX.out.1, (hb1.block _ (by simp)).trans HX.out.2⟩; have x0 := cell_of_row w1 w.heap.size 0 _ _ (0, 0) HX1.out.1; have x1 := cell_of_row w1 w.heap.size 1 _ _ (0, 0) HX1.out.1; simp at x0 x1; have HB1 : Hid (Below w.heap.size w w1) := hide (HB.out.trans (hb1.mono (by simp; omega))); have HZ1 : Hid (w.heap.size + 2 ≤ w1.heap.size) := hide (by have := hb1.size; simpa using this); clear hb1) | (go_at_call 29; refine (HOF.out _ HB1.out).mono ?_; rintro e w2 ⟨p, m, rfl, hbd, hb2⟩; have HBD := hide hbd; have HB2 := hide hb2; have HX2 : Hid (w2.heap[w.heap.size + 1]? = some (.cells #[.slice none 0 0, .int .i64 0] 35 (0, 0))) := hide ((hb2.block _ (by have := HZ1.out; omega)).trans HX1.out.2); clear hbd hb2 x0 x1))
    refine (HF.out _ p m _ HBD.out).mono ?_
    rintro e w3 ⟨v, rfl, hown, hg3⟩
    obtain ⟨A3, c3, rfl, _⟩ := own_sh hown
    have hx3 := (hg3.block _ (lt_of_block HX2.out) (by have := HBD.out.bm; have := HZ1.out; simp; omega)).trans HX2.out
    have y0 := cell_of_row w3 (w.heap.size + 1) 0 _ _ (0, 0) hx3
    have y1 := cell_of_row w3 (w.heap.size + 1) 1 _ _ (0, 0) hx3
    simp at y0 y1
    have y2 : ∀ i, w3.frozen? ⟨w.heap.size + 1, i, none⟩ = false := fun i => by simp [World.frozen?, hx3]
    have HB3 : Hid (Below w.heap.size w w3) := hide ((HB1.out.trans (HB2.out.mono HB1.out.size)).grown hg3 (by have := HB1.out.size; have := HB2.out.size; omega) (fun j hj => by have := HBD.out.bm; have := HB1.out.size; have := Option.some.inj hj; omega))
    have HO := hide hown
    have HZ2 : Hid (w.heap.size + 2 ≤ w2.heap.size) := hide (by have := HZ1.out; have := HB2.out.size; omega)
    generalize bestW (ls.drop q) f = bw at *
    clear hown hg3 hx3
    go_wp2_with fail
    refine bodyPost_ret (v := .tuple #[.agg #[.slice A3 ls.length c3, .int .i64 bw], .int .i64 0]) (by simp [results, Try.results12, go_sem, y0, y1]) rfl ?_
    refine ⟨_, by rw [HR.out], ?_, ?_⟩
    · rw [HR.out]
      simp only
      rw [HLEN.out]
      have hf : ∀ {W : World} {i : Nat} {u v : Value} {xs : List Value} {n : Nat}, W.ownsRow w2.heap.size 3 1 v n xs → (W.setCell ⟨w.heap.size + 1, i, none⟩ u).ownsRow w2.heap.size 3 1 v n xs :=
        fun h => ownsRow_setCell_other h (fun e => by have h5 := (h.lt _ e).1; have h6 := HZ2.out; change _ ≤ w.heap.size + 1 at h5; omega) _
      exact own_base (hf (hf HO.out)) (by have := HZ2.out; omega)
    · repeat (refine Below.setCell ?_ (by show w.heap.size ≤ w.heap.size + 1; omega) _)
      exact HB3.out
  · have HR : Hid (partI n ls k f = (([], 0), mayE n ls k f)) := hide (by unfold partI; rw [if_pos h1])
    have h1' : (mayE n ls k f != 0) = true := by simpa using h1
    generalize mayE n ls k f = z at *
    clear h1 h hw
    simp only [instV] at *
    go_enter Try.func12, Try.ntmps12
    go_wp2_with (first | (go_at_call 28; refine (HI.out).mono ?_; rintro e w1 ⟨rfl, hb1⟩; have hx1 : w1.heap[w.heap.size + 1]? = some (.cells #[.slice none 0 0, .int .i64 0] 35 (0, 0)) := (hb1.block _ (by simp)).trans HX.out.2; have y0 := cell_of_row w1 (w.heap.size + 1) 0 _ _ (0, 0) hx1; have y1 := cell_of_row w1 (w.heap.size + 1) 1 _ _ (0, 0) hx1; simp at y0 y1; have y2 : ∀ i, w1.frozen? ⟨w.heap.size + 1, i, none⟩ = false := (fun i => by simp [World.frozen?, hx1]); have HB1 : Hid (Below w.heap.size w w1) := hide (HB.out.trans (hb1.mono (by simp; omega))); clear hb1 hx1))
    refine bodyPost_ret (v := .tuple #[.agg #[.slice none 0 0, .int .i64 0], .int .i64 z]) (by simp [results, Try.results12, go_sem, y0, y1]) rfl ?_
    refine ⟨_, by rw [HR.out], ?_, ?_⟩
    · rw [HR.out]
      exact World.ownsRow_nil _ _ _ _
    · repeat (refine Below.setCell ?_ (by show w.heap.size ≤ w.heap.size + 1; omega) _)
      exact HB1.out

set_option maxRecDepth 100000 in
set_option maxHeartbeats 2000000 in
theorem best_any (n : Int) (A : Option Addr) (c : Nat) (hs : List Hdr) (ls : List (List Offer)) (w : World) (h : Buys w w.heap.size A hs ls) (hl : ls.length ≤ 1000000) (hls : BLens ls) (hw : BWide ls) :
    Calls Try.prog 16 #[instV n A ls.length c] w (ClearPost (bestI n ls) w) := by
  have HB : Hid (Below w.heap.size w ((w.alloc (.cells #[.int .i64 n, .slice A ls.length c] 24)).alloc (.cells #[.slice none 0 0, .int .i64 0] 35)).drew) := hide (((Below.refl _ _).alloc (Nat.le_refl _) _).alloc (by simp) _).drew
  have HX : Hid (((w.alloc (.cells #[.int .i64 n, .slice A ls.length c] 24)).alloc (.cells #[.slice none 0 0, .int .i64 0] 35)).drew.heap[w.heap.size]? = some (.cells #[.int .i64 n, .slice A ls.length c] 24 (0, 0)) ∧
      ((w.alloc (.cells #[.int .i64 n, .slice A ls.length c] 24)).alloc (.cells #[.slice none 0 0, .int .i64 0] 35)).drew.heap[w.heap.size + 1]? = some (.cells #[.slice none 0 0, .int .i64 0] 35 (0, 0))) := hide ⟨by
    have h1 := Below.heap_alloc (w.alloc (.cells #[.int .i64 n, .slice A ls.length c] 24)) (.cells #[.slice none 0 0, .int .i64 0] 35) w.heap.size (by simp)
    exact h1.trans (heap_alloc_new w _), by
    have := heap_alloc_new (w.alloc (.cells #[.int .i64 n, .slice A ls.length c] 24)) (.cells #[.slice none 0 0, .int .i64 0] 35)
    simp only [World.size_alloc] at this
    exact this⟩
  have HP : Hid (∀ W, Below w.heap.size w W → Calls Try.prog 12 #[instV n A ls.length c, .int .i64 0, .int .u32 (allI n : Int)] W (ClearPost (bestI n ls) W)) := hide (fun W hb => part_any n A c hs ls 0 (allI n) W (h.up hb) hl hls hw (allI_lt n))
  have HWH := hide (fun W => whole_any n A ls.length c W)
  have HZ : Hid (((w.alloc (.cells #[.int .i64 n, .slice A ls.length c] 24)).alloc (.cells #[.slice none 0 0, .int .i64 0] 35)).drew.heap.size = w.heap.size + 2) := hide (by simp)
  generalize (allI n : Int) = al at *
  clear h hw
  generalize bestI n ls = r at *
  obtain ⟨⟨ch, bw⟩, er⟩ := r
  simp only [instV] at *
  go_enter Try.func16, Try.ntmps16
  go_wp2_with fail
  go_region_held3 (fun w' => w'.cell? ⟨w.heap.size, 0, none⟩ = some (.int .i64 n) ∧ w'.cell? ⟨w.heap.size, 1, none⟩ = some (.slice A ls.length c)) (first | exact ⟨r0, r1⟩ | exact ⟨s0, s1⟩ | exact u01 | go_keep)
    (first | (go_at_call 35; refine (HWH.out _).mono ?_; rintro e w1 ⟨rfl, hb1⟩; have HX1 : Hid (w1.heap[w.heap.size]? = some (.cells #[.int .i64 n, .slice A ls.length c] 24 (0, 0)) ∧ w1.heap[w.heap.size + 1]? = some (.cells #[.slice none 0 0, .int .i64 0] 35 (0, 0))) := hide ⟨(hb1.block _ (by rw [HZ.out]; omega)).trans HX.out.1, (hb1.block _ (by rw [HZ.out]; omega)).trans HX.out.2⟩; have r0 := cell_of_row w1 w.heap.size 0 _ _ (0, 0) HX1.out.1; have r1 := cell_of_row w1 w.heap.size 1 _ _ (0, 0) HX1.out.1; simp at r0 r1; have HB1 : Hid (Below w.heap.size w w1) := hide (HB.out.trans (hb1.mono (by rw [HZ.out]; omega))); have HZ1 : Hid (w.heap.size + 2 ≤ w1.heap.size) := hide (by have := hb1.size; rw [HZ.out] at this; exact this); clear hb1) | (go_at_call 12; refine (HP.out _ HB1.out).mono ?_; rintro e w2 ⟨v, rfl, hown, hb2⟩; have HX2 : Hid (w2.heap[w.heap.size]? = some (.cells #[.int .i64 n, .slice A ls.length c] 24 (0, 0)) ∧ w2.heap[w.heap.size + 1]? = some (.cells #[.slice none 0 0, .int .i64 0] 35 (0, 0))) := hide ⟨(hb2.block _ (by have := HZ1.out; omega)).trans HX1.out.1, (hb2.block _ (by have := HZ1.out; omega)).trans HX1.out.2⟩; have s0 := cell_of_row w2 w.heap.size 0 _ _ (0, 0) HX2.out.1; have s1 := cell_of_row w2 w.heap.size 1 _ _ (0, 0) HX2.out.1; have y0 := cell_of_row w2 (w.heap.size + 1) 0 _ _ (0, 0) HX2.out.2; have y1 := cell_of_row w2 (w.heap.size + 1) 1 _ _ (0, 0) HX2.out.2; simp at s0 s1 y0 y1; have y2 : ∀ i, w2.frozen? ⟨w.heap.size + 1, i, none⟩ = false := (fun i => by simp [World.frozen?, HX2.out.2]); obtain ⟨A3, c3, hv3, _⟩ := own_sh hown; subst hv3; have HO := hide hown; have HB2 : Hid (Below w.heap.size w w2) := hide (HB1.out.trans (hb2.mono HB1.out.size)); have u01 : ∀ i u, (w2.setCell ⟨w.heap.size + 1, i, none⟩ u).cell? ⟨w.heap.size, 0, none⟩ = some (.int .i64 n) ∧ (w2.setCell ⟨w.heap.size + 1, i, none⟩ u).cell? ⟨w.heap.size, 1, none⟩ = some (.slice A ls.length c) := (fun i u => ⟨(World.cell?_setCell_other _ _ _ _ (fun e => by injection e; omega)).trans s0, (World.cell?_setCell_other _ _ _ _ (fun e => by injection e; omega)).trans s1⟩); clear hown hb2))
  go_wp2_with fail
  refine bodyPost_ret (v := .tuple #[.agg #[.slice A3 ch.length c3, .int .i64 bw], .int .i64 er]) (by simp [results, Try.results16, go_sem, y0, y1]) rfl ?_
  refine ⟨_, rfl, ?_, ?_⟩
  · have hf : ∀ {W : World} {i : Nat} {u v : Value} {xs : List Value} {n : Nat}, W.ownsRow w1.heap.size 3 1 v n xs → (W.setCell ⟨w.heap.size + 1, i, none⟩ u).ownsRow w1.heap.size 3 1 v n xs :=
      fun h => ownsRow_setCell_other h (fun e => by have h5 := (h.lt _ e).1; have h6 := HZ1.out; change _ ≤ w.heap.size + 1 at h5; omega) _
    exact own_base (hf (hf HO.out)) (by have := HZ1.out; omega)
  · repeat (refine Below.setCell ?_ (by show w.heap.size ≤ w.heap.size + 1; omega) _)
    exact HB2.out

set_option maxRecDepth 100000 in
set_option maxHeartbeats 2000000 in
theorem less_any (n : Int) (A : Option Addr) (c : Nat) (hs : List Hdr) (ls : List (List Offer)) (b : Int) (w : World) (h : Buys w w.heap.size A hs ls) (hl : ls.length ≤ 1000000) (hls : BLens ls) (hw : BWide ls) (hnil : NilB hs) :
    Calls Try.prog 18 #[instV n A ls.length c, .int .i64 b] w (ClearPost (lessI n ls b) w) := by
  have HB : Hid (Below w.heap.size w ((w.alloc (.cells #[.int .i64 n, .slice A ls.length c] 24)).alloc (.cells #[.slice none 0 0, .int .i64 0] 35))) := hide (((Below.refl _ _).alloc (Nat.le_refl _) _).alloc (by simp) _)
  have HX : Hid (((w.alloc (.cells #[.int .i64 n, .slice A ls.length c] 24)).alloc (.cells #[.slice none 0 0, .int .i64 0] 35)).heap[w.heap.size + 1]? = some (.cells #[.slice none 0 0, .int .i64 0] 35 (0, 0))) := hide (by
    have := heap_alloc_new (w.alloc (.cells #[.int .i64 n, .slice A ls.length c] 24)) (.cells #[.slice none 0 0, .int .i64 0] 35)
    simpa using this)
  have HWO := hide (without_any n A c hs ls b _ (h.up HB.out) hl hls hw hnil)
  have HBE : Hid (∀ (A' : Option Addr) (c' : Nat) (hs' : List Hdr) (ls' : List (List Offer)) (W : World), Buys W W.heap.size A' hs' ls' → ls'.length ≤ 1000000 → BLens ls' → BWide ls' → Calls Try.prog 16 #[instV n A' ls'.length c'] W (ClearPost (bestI n ls') W)) :=
    hide (fun A' c' hs' ls' W h1 h2 h3 h4 => best_any n A' c' hs' ls' W h1 h2 h3 h4)
  have HLS := hide hls
  have HWD := hide hw
  clear h hls hw hnil
  simp only [instV] at *
  go_enter Try.func18, Try.ntmps18
  go_wp2_with fail
  refine (HWO.out).mono ?_
  rintro e w1 (⟨hne, rfl, hb1⟩ | ⟨h0, A', c', hs', rfl, hown, hb1⟩)
  · have HR : Hid (lessI n ls b = (([], 0), withE n ls b [])) := hide (by unfold lessI; rw [if_pos hne])
    have hne' : (withE n ls b [] != 0) = true := by simpa using hne
    have hx1 : w1.heap[w.heap.size + 1]? = some (.cells #[.slice none 0 0, .int .i64 0] 35 (0, 0)) := (hb1.block _ (by simp)).trans HX.out
    have hl1 := lt_of_block hx1
    have HX1 := hide hx1
    have HB1 : Hid (Below w.heap.size w w1) := hide (HB.out.trans (hb1.mono (by simp; omega)))
    generalize withE n ls b [] = z at *
    clear hb1 hx1 hne
    simp only [instV]
    go_upto_region 2 with fail
    have hx2 : (w1.alloc (.cells #[.int .i64 0, .slice none 0 0] 24)).heap[w.heap.size + 1]? = some (.cells #[.slice none 0 0, .int .i64 0] 35 (0, 0)) := (Below.heap_alloc _ _ _ hl1).trans HX1.out
    have HB2 : Hid (Below w.heap.size w (w1.alloc (.cells #[.int .i64 0, .slice none 0 0] 24))) := hide (HB1.out.alloc HB1.out.size _)
    generalize w1.alloc (.cells #[.int .i64 0, .slice none 0 0] 24) = w2 at *
    have y0 : w2.cell? ⟨w.heap.size + 1, 0, none⟩ = some (.slice none 0 0) := cell_of_row w2 (w.heap.size + 1) 0 _ _ (0, 0) hx2
    have y1 : w2.cell? ⟨w.heap.size + 1, 1, none⟩ = some (.int .i64 0) := cell_of_row w2 (w.heap.size + 1) 1 _ _ (0, 0) hx2
    have y2 : ∀ i, w2.frozen? ⟨w.heap.size + 1, i, none⟩ = false := fun i => by simp [World.frozen?, hx2]
    clear hx2
    go_wp2_with fail
    refine bodyPost_ret (v := .tuple #[.agg #[.slice none 0 0, .int .i64 0], .int .i64 z]) (by simp [results, Try.results18, go_sem, y0, y1]) rfl ?_
    refine ⟨_, by rw [HR.out], by rw [HR.out]; exact World.ownsRow_nil _ _ _ _, ?_⟩
    repeat (refine Below.setCell ?_ (by show w.heap.size ≤ w.heap.size + 1; omega) _)
    exact HB2.out
  · have HR : Hid (lessI n ls b = bestI n (ls.set b.toNat [])) := hide (by unfold lessI; rw [if_neg (by simpa using h0)])
    have hx1 : w1.heap[w.heap.size + 1]? = some (.cells #[.slice none 0 0, .int .i64 0] 35 (0, 0)) := (hb1.block _ (by simp)).trans HX.out
    have HX1 := hide hx1
    have HB1 : Hid (Below w.heap.size w w1) := hide (HB.out.trans (hb1.mono (by simp; omega)))
    have HB2 : Hid (Below w1.heap.size w1 (w1.alloc (.cells #[.int .i64 n, .slice A' ls.length c'] 24))) := hide ((Below.refl _ _).alloc (Nat.le_refl _) _)
    have HBC0 := (HBE.out A' c' hs' (ls.set b.toNat []) _ (hown.buys.up HB2.out) (by simpa using hl) (fun l hl' => by
      rcases List.mem_or_eq_of_mem_set hl' with h1 | h1
      · exact HLS.out l h1
      · subst h1; simp) (fun l hl' => by
      rcases List.mem_or_eq_of_mem_set hl' with h1 | h1
      · exact HWD.out l h1
      · subst h1; exact fun o ho => by cases ho))
    rw [List.length_set] at HBC0
    have HBC := hide HBC0
    clear HBC0
    generalize ls.set b.toNat [] = ls2 at *
    generalize bestI n ls2 = r at *
    obtain ⟨⟨ch, bw⟩, er⟩ := r
    clear hb1 hx1 hown h0
    simp only [instV] at *
    go_wp2_with fail
    refine (HBC.out).mono ?_
    rintro e w3 ⟨v, rfl, hown, hb3⟩
    obtain ⟨A3, c3, rfl, _⟩ := own_sh hown
    have hl1 := lt_of_block HX1.out
    have hx3 : w3.heap[w.heap.size + 1]? = some (.cells #[.slice none 0 0, .int .i64 0] 35 (0, 0)) := (hb3.block _ (by simp; omega)).trans ((Below.heap_alloc _ _ _ hl1).trans HX1.out)
    have y0 : w3.cell? ⟨w.heap.size + 1, 0, none⟩ = some (.slice none 0 0) := cell_of_row w3 (w.heap.size + 1) 0 _ _ (0, 0) hx3
    have y1 : w3.cell? ⟨w.heap.size + 1, 1, none⟩ = some (.int .i64 0) := cell_of_row w3 (w.heap.size + 1) 1 _ _ (0, 0) hx3
    have y2 : ∀ i, w3.frozen? ⟨w.heap.size + 1, i, none⟩ = false := fun i => by simp [World.frozen?, hx3]
    have HB3 : Hid (Below w.heap.size w w3) := hide ((HB1.out.alloc HB1.out.size _).trans (hb3.mono (by have := HB1.out.size; simp; omega)))
    have HO := hide hown
    have HZ1 : Hid (w.heap.size + 2 ≤ w1.heap.size) := hide (by omega)
    clear hown hb3 hx3
    go_wp2_with fail
    refine bodyPost_ret (v := .tuple #[.agg #[.slice A3 ch.length c3, .int .i64 bw], .int .i64 er]) (by simp [results, Try.results18, go_sem, y0, y1]) rfl ?_
    refine ⟨_, by rw [HR.out], ?_, ?_⟩
    · rw [HR.out]
      have ho := HO.out
      simp only [World.size_alloc] at ho
      have hf : ∀ {W : World} {i : Nat} {u v : Value} {xs : List Value} {n : Nat}, W.ownsRow (w1.heap.size + 1) 3 1 v n xs → (W.setCell ⟨w.heap.size + 1, i, none⟩ u).ownsRow (w1.heap.size + 1) 3 1 v n xs :=
        fun h => ownsRow_setCell_other h (fun e => by have h5 := (h.lt _ e).1; have h6 := HZ1.out; change _ ≤ w.heap.size + 1 at h5; omega) _
      exact own_base (hf (hf ho)) (by have := HZ1.out; omega)
    · repeat (refine Below.setCell ?_ (by show w.heap.size ≤ w.heap.size + 1; omega) _)
      exact HB3.out
end Go.Proofs.Ytkjmpenaifhfjaa
