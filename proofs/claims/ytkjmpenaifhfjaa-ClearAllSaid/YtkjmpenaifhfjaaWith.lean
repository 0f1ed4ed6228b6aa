/- The walks of offers.With, offers.Without: what they compute. -/
import Derived.Test.YtkjmpenaifhfjaaCopy
import Derived.Lib.SmallJoins
namespace Go.Proofs.Ytkjmpenaifhfjaa
open Go.RowKit

/-- An instance with other offers of one buyer: the answer, the refusal. -/
def withE (n : Int) (ls : List (List Offer)) (b : Int) (l : List Offer) : Int :=
  if instE n ls ≠ 0 then instE n ls else if b < 0 ∨ (ls.length : Int) ≤ b then 2 else (checkO n l).2
theorem OwnB.put {w : World} {base : Nat} {A : Option Addr} {c : Nat} {hs : List Hdr} {ls : List (List Offer)} (h : OwnB w base A c hs ls) {b : Nat} (hb : b < ls.length) {A' : Option Addr} {c' : Nat} {l : List Offer}
    (hrow : w.ownsRow base 51 2 (.slice A' l.length c') l.length (cells2 offV l)) (hn : A' = none → c' = 0) {g cap : Nat} (hv : (Value.slice A ls.length c) = .slice (some ⟨g, 0, none⟩) ls.length cap) :
    OwnB (w.setCell ⟨g, b, none⟩ (.slice A' l.length c')) base A c (hs.set b (A', c')) (ls.set b l) := by
  injection hv with h1 _ h3
  subst h1 h3
  have hst := (h.hdr.stored b (.slice A' l.length c')).1
  have hz : (List.zipWith hdrV hs ls).set b (.slice A' l.length c') = List.zipWith hdrV (hs.set b (A', c')) (ls.set b l) := by
    apply List.ext_getElem?
    intro j
    rw [List.getElem?_zipWith, List.getElem?_set, List.getElem?_set, List.getElem?_set]
    have h4 := h.len
    by_cases hj : b = j
    · subst hj
      simp [hb, h4, hdrV]
    · simp only [hj, if_false, List.getElem?_zipWith]
  obtain ⟨cur, hcur⟩ : ∃ cur, w.heap[g]? = some (.cells cur 52 (0, 0)) := by
    rcases h.hdr.2 with ⟨h1, _⟩ | ⟨g', cap', cur, h1, _, hh, _⟩
    · cases h1
    · injection h1 with h1
      injection h1 with h1
      injection h1 with h1
      subst h1
      exact ⟨cur, hh⟩
  have keep : ∀ {size n : Nat} {v : Value} {xs : List Value}, w.ownsRow base 51 size v n xs → (w.setCell ⟨g, b, none⟩ (.slice A' l.length c')).ownsRow base 51 size v n xs :=
    fun ho => ownsRow_setCell_other ho (own_ne ho hcur (by simp)) _
  refine ⟨by simp [h.len], ?_, fun i a l' ha hl => ?_, fun a ha => ?_⟩
  · rw [List.length_set, ← hz]
    exact hst
  · rw [List.getElem?_set] at ha hl
    by_cases hj : b = i
    · subst hj
      simp [hb, h.len] at ha hl
      subst ha hl
      exact keep hrow
    · simp only [hj, if_false] at ha hl
      exact keep (h.row i a l' ha hl)
  · rcases List.mem_or_eq_of_mem_set ha with h5 | h5
    · exact h.nil a h5
    · subst h5
      exact hn

def WithPost (n : Int) (ls : List (List Offer)) (b : Int) (l : List Offer) (w : World) (e : Ending) (w' : World) : Prop :=
  (withE n ls b l ≠ 0 ∧ e = .returned (.tuple #[instV 0 none 0 0, .int .i64 (withE n ls b l)]) ∧ Below w.heap.size w w') ∨
  (withE n ls b l = 0 ∧ ∃ A c hs, e = .returned (.tuple #[instV n A ls.length c, .int .i64 0]) ∧ OwnB w' w.heap.size A c hs (ls.set b.toNat l) ∧ Below w.heap.size w w')
set_option maxRecDepth 100000 in
set_option maxHeartbeats 4000000 in
theorem with_any (n : Int) (A : Option Addr) (c : Nat) (hs : List Hdr) (ls : List (List Offer)) (b : Int) (A1 : Option Addr) (c1 : Nat) (l : List Offer) (w : World) (h : Buys w w.heap.size A hs ls) (hl : ls.length ≤ 1000000) (hls : BLens ls) (hw : BWide ls) (hnil : NilB hs)
    (h1 : Offs w w.heap.size A1 l) (hl1 : l.length ≤ 1000000) (hw1 : OWide l) (hn1 : A1 = none → c1 = 0) :
    Calls Try.prog 49 #[instV n A ls.length c, .int .i64 b, .slice A1 l.length c1] w (WithPost n ls b l w) := by
  have hB : Below w.heap.size w ((w.alloc (.cells #[.int .i64 n, .slice A ls.length c] 24)).alloc (.cells #[.int .i64 0, .slice none 0 0] 24)) := ((Below.refl _ _).alloc (Nat.le_refl _) _).alloc (by simp) _
  have HI : Hid (∀ W, Below w.heap.size w W → Calls Try.prog 41 #[instV n A ls.length c] W (IntPost (instE n ls) W)) := hide (fun W hb => inst_any n A c hs ls W (h.up hb) hl hls hw)
  have HC : Hid (∀ W, Below w.heap.size w W → Calls Try.prog 53 #[.int .i64 n, .slice A1 l.length c1] W (CheckPost n l W)) := hide (fun W hb => check_any n A1 c1 l W (h1.up hb) hl1 hw1)
  have HCP : Hid (∀ W, Below w.heap.size w W → Calls Try.prog 42 #[instV n A ls.length c] W (CopyPost n ls W)) := hide (fun W hb => copy_any n A c hs ls W (h.up hb) hl hls hnil)
  have HCL : Hid (∀ W, Below w.heap.size w W → Calls Try.prog 54 #[.slice A1 l.length c1] W (ClonePost l W)) := hide (fun W hb => clone_any A1 c1 l W (h1.up hb) hl1 hn1)
  unfold CheckPost at HC
  have HBB := hide hB
  have HXX : Hid (∀ (W w1 : World), Below (w.heap.size + 2) W w1 → W.heap[w.heap.size]? = some (.cells #[.int .i64 n, .slice A ls.length c] 24 (0, 0)) → W.heap[w.heap.size + 1]? = some (.cells #[.int .i64 0, .slice none 0 0] 24 (0, 0)) →
      (w1.heap[w.heap.size]? = some (.cells #[.int .i64 n, .slice A ls.length c] 24 (0, 0)) ∧ w1.heap[w.heap.size + 1]? = some (.cells #[.int .i64 0, .slice none 0 0] 24 (0, 0)))) :=
    hide (fun W w1 hb h1 h2 => ⟨(hb.block _ (by omega)).trans h1, (hb.block _ (by omega)).trans h2⟩)
  have HST : Hid (((w.alloc (.cells #[.int .i64 n, .slice A ls.length c] 24)).alloc (.cells #[.int .i64 0, .slice none 0 0] 24)).heap[w.heap.size]? = some (.cells #[.int .i64 n, .slice A ls.length c] 24 (0, 0)) ∧
      ((w.alloc (.cells #[.int .i64 n, .slice A ls.length c] 24)).alloc (.cells #[.int .i64 0, .slice none 0 0] 24)).heap[w.heap.size + 1]? = some (.cells #[.int .i64 0, .slice none 0 0] 24 (0, 0))) := hide ⟨by
    rw [Below.heap_alloc _ _ _ (by simp)]; exact heap_alloc_new w _, by
    have := heap_alloc_new (w.alloc (.cells #[.int .i64 n, .slice A ls.length c] 24)) (.cells #[.int .i64 0, .slice none 0 0] 24)
    simpa using this⟩
  have HWE : Hid (withE n ls b l = if instE n ls ≠ 0 then instE n ls else if b < 0 ∨ (ls.length : Int) ≤ b then 2 else (checkO n l).2) := hide rfl
  have hcells : ∀ (W : World), (W.heap[w.heap.size]? = some (.cells #[.int .i64 n, .slice A ls.length c] 24 (0, 0)) ∧ W.heap[w.heap.size + 1]? = some (.cells #[.int .i64 0, .slice none 0 0] 24 (0, 0))) →
      W.cell? ⟨w.heap.size, 0, none⟩ = some (.int .i64 n) ∧ W.cell? ⟨w.heap.size, 1, none⟩ = some (.slice A ls.length c) ∧ W.cell? ⟨w.heap.size + 1, 0, none⟩ = some (.int .i64 0) ∧ W.cell? ⟨w.heap.size + 1, 1, none⟩ = some (.slice none 0 0) ∧ (∀ i, W.frozen? ⟨w.heap.size + 1, i, none⟩ = false) :=
    fun W ⟨h1, h2⟩ => ⟨cell_of_row W _ 0 _ _ (0, 0) h1, cell_of_row W _ 1 _ _ (0, 0) h1, cell_of_row W _ 0 _ _ (0, 0) h2, cell_of_row W _ 1 _ _ (0, 0) h2, fun i => by simp [World.frozen?, h2]⟩
  have HCE := hide hcells
  unfold WithPost
  generalize withE n ls b l = we at *
  clear hB hcells h hw hls hnil h1
  simp only [instV] at *
  by_cases hi : instE n ls = 0
  · rw [hi] at HI
    rw [hi] at HWE
    by_cases hb0 : b < 0
    · have hwe : we = 2 := by rw [HWE.out, if_neg (by simp), if_pos (.inl hb0)]
      clear hi
      subst hwe
      go_enter Try.func49, Try.ntmps49
      go_wp2_with (go_at_call 41; refine (HI.out _ HBB.out).mono ?_; rintro e w1 ⟨rfl, hb1⟩; have HX1 := hide (HXX.out _ w1 (hb1.mono (by simp)) HST.out.1 HST.out.2); obtain ⟨x0, x1, y0, y1, y2⟩ := HCE.out w1 HX1.out; have HB1 : Hid (Below w.heap.size w w1) := hide (HBB.out.trans (hb1.mono (by simp; omega))); clear hb1)
      refine bodyPost_ret (v := .tuple #[.agg #[.int .i64 0, .slice none 0 0], .int .i64 2]) (by simp [results, Try.results49, go_sem, y0, y1]) rfl (.inl ⟨by simp, rfl, ?_⟩)
      repeat (refine Below.setCell ?_ (by show w.heap.size ≤ w.heap.size + 1; omega) _)
      exact HB1.out
    · by_cases hb1 : (ls.length : Int) ≤ b
      · have hwe : we = 2 := by rw [HWE.out, if_neg (by simp), if_pos (.inr hb1)]
        clear hi
        subst hwe
        go_enter Try.func49, Try.ntmps49
        go_wp2_with (go_at_call 41; refine (HI.out _ HBB.out).mono ?_; rintro e w1 ⟨rfl, hb1⟩; have HX1 := hide (HXX.out _ w1 (hb1.mono (by simp)) HST.out.1 HST.out.2); obtain ⟨x0, x1, y0, y1, y2⟩ := HCE.out w1 HX1.out; have HB1 : Hid (Below w.heap.size w w1) := hide (HBB.out.trans (hb1.mono (by simp; omega))); clear hb1)
        refine bodyPost_ret (v := .tuple #[.agg #[.int .i64 0, .slice none 0 0], .int .i64 2]) (by simp [results, Try.results49, go_sem, y0, y1]) rfl (.inl ⟨by simp, rfl, ?_⟩)
        repeat (refine Below.setCell ?_ (by show w.heap.size ≤ w.heap.size + 1; omega) _)
        exact HB1.out
      · have hwe : we = (checkO n l).2 := by rw [HWE.out, if_neg (by simp), if_neg (by omega)]
        rw [← hwe] at HC
        generalize (checkO n l).1 = z1 at HC
        clear hi hwe HWE
        obtain ⟨q, rfl⟩ : ∃ q : Nat, b = q := ⟨b.toNat, by omega⟩
        have hq : q < ls.length := by omega
        by_cases hwe : we = 0
        · subst hwe
          go_enter Try.func49, Try.ntmps49
          go_wp2_with (first | (go_at_call 41; refine (HI.out _ HBB.out).mono ?_; rintro e w1 ⟨rfl, hb1⟩; have HX1 := hide (HXX.out _ w1 (hb1.mono (by simp)) HST.out.1 HST.out.2); obtain ⟨x0, x1, y0, y1, y2⟩ := HCE.out w1 HX1.out; have HB1 : Hid (Below w.heap.size w w1) := hide (HBB.out.trans (hb1.mono (by simp; omega))); have HZ1 : Hid (w.heap.size + 2 ≤ w1.heap.size) := hide (by have := hb1.size; simpa using this); clear hb1) | (go_at_call 53; refine (HC.out _ HB1.out).mono ?_; rintro e w2 ⟨rfl, hb2⟩; have HX2 := hide (HXX.out _ w2 (hb2.mono HZ1.out) HX1.out.1 HX1.out.2); clear x0 x1 y0 y1 y2; obtain ⟨x0, x1, y0, y1, y2⟩ := HCE.out w2 HX2.out; have HB2 : Hid (Below w.heap.size w w2) := hide (HB1.out.trans (hb2.mono HB1.out.size)); have HZ2 : Hid (w.heap.size + 2 ≤ w2.heap.size) := hide (by have := hb2.size; have := HZ1.out; omega); clear hb2))
          refine (HCP.out _ HB2.out).mono ?_
          rintro e w3 ⟨A3, c3, hs3, rfl, hown3, hb3⟩
          have HX3 := hide (HXX.out _ w3 (hb3.mono HZ2.out) HX2.out.1 HX2.out.2)
          clear x0 x1 y0 y1 y2
          obtain ⟨x0, x1, y0, y1, y2⟩ := HCE.out w3 HX3.out
          have HB3 : Hid (Below w.heap.size w w3) := hide (HB2.out.trans (hb3.mono HB2.out.size))
          have HZ3 : Hid (w.heap.size + 2 ≤ w3.heap.size) := hide (by have := hb3.size; have := HZ2.out; omega)
          have HO3 := hide hown3
          obtain ⟨g, cap, hv3⟩ := Go.Joins.ownsRow_form hown3.hdr (by omega)
          have hge := hown3.hdr.lt g (by rw [hv3]; rfl)
          injection hv3 with hA3 _ hc3
          subst hA3 hc3
          have HGE := hide hge
          clear hown3 hb3 hge
          simp only [instV]
          have HB4 : Hid (Below w.heap.size w (w3.alloc (.cells #[.int .i64 n, .slice (some ⟨g, 0, none⟩) ls.length c3] 24)).drew) := hide (HB3.out.alloc HB3.out.size _).drew
          have HC4 := hide (HCL.out _ HB4.out)
          have HG4 : Hid ((w3.alloc (.cells #[.int .i64 n, .slice (some ⟨g, 0, none⟩) ls.length c3] 24)).drew.heap.size = w3.heap.size + 1) := hide (by simp)
          have HW4 : Hid ((w3.alloc (.cells #[.int .i64 n, .slice (some ⟨g, 0, none⟩) ls.length c3] 24)).drew.heap[w3.heap.size]? = some (.cells #[.int .i64 n, .slice (some ⟨g, 0, none⟩) ls.length c3] 24 (0, 0))) := hide (heap_alloc_new w3 _)
          have HX4 : Hid ((w3.alloc (.cells #[.int .i64 n, .slice (some ⟨g, 0, none⟩) ls.length c3] 24)).drew.heap[w.heap.size]? = some (.cells #[.int .i64 n, .slice A ls.length c] 24 (0, 0)) ∧ (w3.alloc (.cells #[.int .i64 n, .slice (some ⟨g, 0, none⟩) ls.length c3] 24)).drew.heap[w.heap.size + 1]? = some (.cells #[.int .i64 0, .slice none 0 0] 24 (0, 0))) :=
            hide ⟨(Below.heap_alloc _ _ _ (by have := HZ3.out; omega)).trans HX3.out.1, (Below.heap_alloc _ _ _ (by have := HZ3.out; omega)).trans HX3.out.2⟩
          have HO4 : Hid (OwnB (w3.alloc (.cells #[.int .i64 n, .slice (some ⟨g, 0, none⟩) ls.length c3] 24)).drew w2.heap.size (some ⟨g, 0, none⟩) c3 hs3 ls) := hide (HO3.out.below ((Below.refl _ _).alloc (Nat.le_refl _) _).drew)
          have hql : (q : Int) < (ls.length : Int) := by omega
          go_wp2_with fail
          have HBD : Hid (∀ (W w5 : World), Below W.heap.size W w5 → W.heap.size = w3.heap.size + 1 → W.heap[w3.heap.size]? = some (.cells #[.int .i64 n, .slice (some ⟨g, 0, none⟩) ls.length c3] 24 (0, 0)) → w5.heap[w3.heap.size]? = some (.cells #[.int .i64 n, .slice (some ⟨g, 0, none⟩) ls.length c3] 24 (0, 0))) :=
            hide (fun W w5 hb hz h => (hb.block _ (by omega)).trans h)
          go_region_held3 (fun w' => w'.cell? ⟨w3.heap.size, 1, none⟩ = some (.slice (some ⟨g, 0, none⟩) ls.length c3)) (first | exact r1 | exact r2 _ | go_keep)
            (first | (go_at_call 54; refine (HC4.out).mono ?_; rintro e w5 ⟨A5, c5, rfl, hown5, hb5⟩; have HW5 := hide (HBD.out _ w5 hb5 HG4.out HW4.out); have r1 := cell_of_row w5 w3.heap.size 1 _ _ (0, 0) HW5.out; simp at r1; have r2 : ∀ u, (w5.setCell ⟨g, q, none⟩ u).cell? ⟨w3.heap.size, 1, none⟩ = some (.slice (some ⟨g, 0, none⟩) ls.length c3) := (fun u => (World.cell?_setCell_other _ _ _ _ (fun e => by have := HGE.out.2; injection e; omega)).trans r1); have HOW5 := hide hown5; have HO5 : Hid (OwnB w5 w2.heap.size (some ⟨g, 0, none⟩) c3 hs3 ls) := hide (HO4.out.below hb5); have hgc : ∃ u, w5.cell? ⟨g, q, none⟩ = some u := (by have := HO5.out.hdr.cellAt q (by omega); rw [this]; exact ⟨_, List.getElem?_eq_getElem (by simp [HO5.out.len]; omega)⟩); obtain ⟨u5, hu5⟩ := hgc; have hgf := HO5.out.hdr.frozenAt q; have HB5 : Hid (Below w.heap.size w w5) := hide (HB4.out.trans (hb5.mono HB4.out.size)); have HX5 := hide (HXX.out _ w5 (hb5.mono (by rw [HG4.out]; have := HZ3.out; omega)) HX4.out.1 HX4.out.2); have HG5 : Hid (w3.heap.size < w5.heap.size) := hide (by have := hb5.size; rw [HG4.out] at this; omega); clear hown5 hb5))
          have h6 := HO5.out.put hq (own_base HOW5.out (by rw [HG4.out]; have := HB2.out.size; have := HGE.out; omega)) (fun e => by
            subst e
            rcases HOW5.out.2 with ⟨h1, _⟩ | ⟨g', cap', cur', h1, _⟩
            · injection h1
            · injection h1 with h1; cases h1) rfl
          have hw6 : (w5.setCell ⟨g, q, none⟩ (.slice A5 l.length c5)).heap[w3.heap.size]? = some (.cells #[.int .i64 n, .slice (some ⟨g, 0, none⟩) ls.length c3] 24 (0, 0)) := (Below.heap_setCell w5 ⟨g, q, none⟩ _ _ (by have := HGE.out.2; simp; omega)).trans HW5.out
          have hx6 : (w5.setCell ⟨g, q, none⟩ (.slice A5 l.length c5)).heap[w.heap.size + 1]? = some (.cells #[.int .i64 0, .slice none 0 0] 24 (0, 0)) := (Below.heap_setCell w5 ⟨g, q, none⟩ _ _ (by have := HGE.out.1; have := HZ2.out; simp; omega)).trans HX5.out.2
          have HB6 : Hid (Below w.heap.size w (w5.setCell ⟨g, q, none⟩ (.slice A5 l.length c5))) := hide (HB5.out.setCell (by have := HGE.out.1; have := HZ2.out; simp; omega) _)
          have HH6 := hide h6
          clear h6 r1 r2 hu5 hgf y0 y1 y2 x0 x1
          go_simp
          generalize w5.setCell ⟨g, q, none⟩ (.slice A5 l.length c5) = w6 at *
          have z0 := cell_of_row w6 w3.heap.size 0 _ _ (0, 0) hw6
          have z1 := cell_of_row w6 w3.heap.size 1 _ _ (0, 0) hw6
          have y0 := cell_of_row w6 (w.heap.size + 1) 0 _ _ (0, 0) hx6
          have y1 := cell_of_row w6 (w.heap.size + 1) 1 _ _ (0, 0) hx6
          simp at z0 z1 y0 y1
          have y2 : ∀ i, w6.frozen? ⟨w.heap.size + 1, i, none⟩ = false := fun i => by simp [World.frozen?, hx6]
          have HZ6 : Hid (w.heap.size + 1 < w2.heap.size) := hide (by have := HZ2.out; omega)
          clear hw6 hx6
          go_wp2_with fail
          refine bodyPost_ret (v := .tuple #[.agg #[.int .i64 n, .slice (some ⟨g, 0, none⟩) ls.length c3], .int .i64 0]) (by simp [results, Try.results49, go_sem, y0, y1]) rfl (.inr ⟨by simp, some ⟨g, 0, none⟩, c3, hs3.set q (A5, c5), by simp, ?_, ?_⟩)
          · rw [Int.toNat_natCast]
            have key : ∀ (W : World) (b i : Nat) (u : Value), b < w2.heap.size → OwnB W w2.heap.size (some ⟨g, 0, none⟩) c3 (hs3.set q (A5, c5)) (ls.set q l) → OwnB (W.setCell ⟨b, i, none⟩ u) w2.heap.size (some ⟨g, 0, none⟩) c3 (hs3.set q (A5, c5)) (ls.set q l) := by
              intro W b i u hb ho
              have hf : ∀ {e size n : Nat} {v : Value} {xs : List Value}, W.ownsRow w2.heap.size e size v n xs → (W.setCell ⟨b, i, none⟩ u).ownsRow w2.heap.size e size v n xs := by
                intro e size n v xs h
                exact ownsRow_setCell_other h (fun e => by have := (h.lt _ e).1; simp at this; omega) _
              exact ⟨ho.len, hf ho.hdr, fun i a l ha hl => hf (ho.row i a l ha hl), ho.nil⟩
            exact (key _ _ _ _ HZ6.out (key _ _ _ _ HZ6.out HH6.out)).base_ (by have := HZ6.out; omega)
          · repeat (refine Below.setCell ?_ (by show w.heap.size ≤ w.heap.size + 1; omega) _)
            exact HB6.out
        · have hwe' : (we != 0) = true := by simpa using hwe
          go_enter Try.func49, Try.ntmps49
          go_wp2_with (first | (go_at_call 41; refine (HI.out _ HBB.out).mono ?_; rintro e w1 ⟨rfl, hb1⟩; have HX1 := hide (HXX.out _ w1 (hb1.mono (by simp)) HST.out.1 HST.out.2); obtain ⟨x0, x1, y0, y1, y2⟩ := HCE.out w1 HX1.out; have HB1 : Hid (Below w.heap.size w w1) := hide (HBB.out.trans (hb1.mono (by simp; omega))); have HZ1 : Hid (w.heap.size + 2 ≤ w1.heap.size) := hide (by have := hb1.size; simpa using this); clear hb1) | (go_at_call 53; refine (HC.out _ HB1.out).mono ?_; rintro e w2 ⟨rfl, hb2⟩; have HX2 := hide (HXX.out _ w2 (hb2.mono HZ1.out) HX1.out.1 HX1.out.2); clear x0 x1 y0 y1 y2; obtain ⟨x0, x1, y0, y1, y2⟩ := HCE.out w2 HX2.out; have HB2 : Hid (Below w.heap.size w w2) := hide (HB1.out.trans (hb2.mono HB1.out.size)); clear hb2))
          refine bodyPost_ret (v := .tuple #[.agg #[.int .i64 0, .slice none 0 0], .int .i64 we]) (by simp [results, Try.results49, go_sem, y0, y1]) rfl (.inl ⟨hwe, rfl, ?_⟩)
          repeat (refine Below.setCell ?_ (by show w.heap.size ≤ w.heap.size + 1; omega) _)
          exact HB2.out
  · have hwe : we = instE n ls := by rw [HWE.out, if_pos hi]
    have hi' : (instE n ls != 0) = true := by simpa using hi
    rw [← hwe] at HI hi hi'
    clear hwe HWE
    go_enter Try.func49, Try.ntmps49
    go_wp2_with (go_at_call 41; refine (HI.out _ HBB.out).mono ?_; rintro e w1 ⟨rfl, hb1⟩; have HX1 := hide (HXX.out _ w1 (hb1.mono (by simp)) HST.out.1 HST.out.2); obtain ⟨x0, x1, y0, y1, y2⟩ := HCE.out w1 HX1.out; have HB1 : Hid (Below w.heap.size w w1) := hide (HBB.out.trans (hb1.mono (by simp; omega))); clear hb1)
    refine bodyPost_ret (v := .tuple #[.agg #[.int .i64 0, .slice none 0 0], .int .i64 we]) (by simp [results, Try.results49, go_sem, y0, y1]) rfl (.inl ⟨hi, rfl, ?_⟩)
    repeat (refine Below.setCell ?_ (by show w.heap.size ≤ w.heap.size + 1; omega) _)
    exact HB1.out

set_option maxRecDepth 100000 in
set_option maxHeartbeats 2000000 in
theorem without_any (n : Int) (A : Option Addr) (c : Nat) (hs : List Hdr) (ls : List (List Offer)) (b : Int) (w : World) (h : Buys w w.heap.size A hs ls) (hl : ls.length ≤ 1000000) (hls : BLens ls) (hw : BWide ls) (hnil : NilB hs) :
    Calls Try.prog 36 #[instV n A ls.length c, .int .i64 b] w (WithPost n ls b [] w) := by
  have HB : Hid (Below w.heap.size w ((w.alloc (.cells #[.int .i64 n, .slice A ls.length c] 24)).alloc (.cells #[.int .i64 0, .slice none 0 0] 24))) := hide (((Below.refl _ _).alloc (Nat.le_refl _) _).alloc (by simp) _)
  have HX : Hid (((w.alloc (.cells #[.int .i64 n, .slice A ls.length c] 24)).alloc (.cells #[.int .i64 0, .slice none 0 0] 24)).heap[w.heap.size + 1]? = some (.cells #[.int .i64 0, .slice none 0 0] 24 (0, 0))) := hide (by
    have := heap_alloc_new (w.alloc (.cells #[.int .i64 n, .slice A ls.length c] 24)) (.cells #[.int .i64 0, .slice none 0 0] 24)
    simpa using this)
  have HW : Hid (∀ W, Below w.heap.size w W → Calls Try.prog 49 #[instV n A ls.length c, .int .i64 b, .slice none 0 0] W (WithPost n ls b [] W)) :=
    hide (fun W hb => with_any n A c hs ls b none 0 [] W (h.up hb) hl hls hw hnil (Two.none_ _ _) (by simp) (fun o ho => by cases ho) (fun _ => rfl))
  clear h hw hls hnil
  simp only [instV] at *
  go_enter Try.func36, Try.ntmps36
  go_wp2_with fail
  refine (HW.out _ HB.out).mono ?_
  rintro e w1 (⟨hne, rfl, hb1⟩ | ⟨h0, A', c', hs', rfl, hown, hb1⟩)
  · have hx1 := (hb1.block _ (by simp)).trans HX.out
    have y0 := cell_of_row w1 (w.heap.size + 1) 0 _ _ (0, 0) hx1
    have y1 := cell_of_row w1 (w.heap.size + 1) 1 _ _ (0, 0) hx1
    simp at y0 y1
    have y2 : ∀ i, w1.frozen? ⟨w.heap.size + 1, i, none⟩ = false := fun i => by simp [World.frozen?, hx1]
    have HB1 := hide (HB.out.trans (hb1.mono (by simp; omega)))
    have HNE := hide hne
    clear hb1 hx1 hne
    simp only [instV]
    go_wp2_with fail
    refine bodyPost_ret (v := .tuple #[.agg #[.int .i64 0, .slice none 0 0], .int .i64 (withE n ls b [])]) (by simp [results, Try.results36, go_sem, y0, y1]) rfl (.inl ⟨HNE.out, rfl, ?_⟩)
    repeat (refine Below.setCell ?_ (by show w.heap.size ≤ w.heap.size + 1; omega) _)
    exact HB1.out
  · have hx1 := (hb1.block _ (by simp)).trans HX.out
    have y0 := cell_of_row w1 (w.heap.size + 1) 0 _ _ (0, 0) hx1
    have y1 := cell_of_row w1 (w.heap.size + 1) 1 _ _ (0, 0) hx1
    simp at y0 y1
    have y2 : ∀ i, w1.frozen? ⟨w.heap.size + 1, i, none⟩ = false := fun i => by simp [World.frozen?, hx1]
    have HB1 := hide (HB.out.trans (hb1.mono (by simp; omega)))
    have HO := hide hown
    have H0 := hide h0
    clear hb1 hx1 hown h0
    simp only [instV]
    go_wp2_with fail
    refine bodyPost_ret (v := .tuple #[.agg #[.int .i64 n, .slice A' (ls.set b.toNat []).length c'], .int .i64 0]) (by simp [results, Try.results36, go_sem, y0, y1]) rfl (.inr ⟨H0.out, A', c', hs', by simp, ?_, ?_⟩)
    · have key : ∀ (W : World) (q i : Nat) (u : Value), q < w.heap.size + 2 → OwnB W (w.heap.size + 2) A' c' hs' (ls.set b.toNat []) → OwnB (W.setCell ⟨q, i, none⟩ u) (w.heap.size + 2) A' c' hs' (ls.set b.toNat []) := by
        intro W q i u hb ho
        have hf : ∀ {e size n : Nat} {v : Value} {xs : List Value}, W.ownsRow (w.heap.size + 2) e size v n xs → (W.setCell ⟨q, i, none⟩ u).ownsRow (w.heap.size + 2) e size v n xs := by
          intro e size n v xs h
          exact ownsRow_setCell_other h (fun e => by have := (h.lt _ e).1; simp at this; omega) _
        exact ⟨ho.len, hf ho.hdr, fun i a l ha hl => hf (ho.row i a l ha hl), ho.nil⟩
      have ho := HO.out
      simp only [World.size_alloc] at ho
      exact (key _ _ _ _ (by omega) (key _ _ _ _ (by omega) ho)).base_ (by omega)
    · repeat (refine Below.setCell ?_ (by show w.heap.size ≤ w.heap.size + 1; omega) _)
      exact HB1.out
end Go.Proofs.Ytkjmpenaifhfjaa
