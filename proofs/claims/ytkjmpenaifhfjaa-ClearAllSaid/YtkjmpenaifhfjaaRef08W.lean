/- The walks of the references' With (of no offers) and Without: what they compute. -/
import Derived.Test.YtkjmpenaifhfjaaRef15B
namespace Go.Proofs.Ytkjmpenaifhfjaa
open Go.RowKit

theorem checkO_nil {n : Int} (h1 : 1 ≤ n) (h2 : n ≤ 10) : checkO n [] = (0, 0) := by
  unfold checkO
  rw [if_neg (by omega), if_neg (by simp), if_neg (by simp [idxTo])]
def RWithPost (n : Int) (ls : List (List Offer)) (b : Int) (w : World) (e : Ending) (w' : World) : Prop :=
  (withE n ls b [] ≠ 0 ∧ e = .returned (.tuple #[instV 0 none 0 0, .int .i64 (withE n ls b [])]) ∧ Below w.heap.size w w') ∨
  (withE n ls b [] = 0 ∧ ∃ A c hs, e = .returned (.tuple #[instV n A ls.length c, .int .i64 0]) ∧ Buys w' w'.heap.size A hs (ls.set b.toNat []) ∧ Below w.heap.size w w')

theorem Buys.put {w w' : World} {A A' : Option Addr} {c' q : Nat} {hs : List Hdr} {ls : List (List Offer)} (h : Buys w w.heap.size A hs ls) (hb : Below w.heap.size w w') {B : Nat}
    (ho : w'.ownsRow B 52 1 (.slice A' ls.length c') ls.length ((List.zipWith hdrV hs ls).set q (.slice none 0 0))) : Buys w' w'.heap.size A' (hs.set q (none, 0)) (ls.set q []) := by
  have hz : (List.zipWith hdrV hs ls).set q (.slice none 0 0) = List.zipWith hdrV (hs.set q (none, 0)) (ls.set q []) := by
    apply List.ext_getElem?
    intro i
    rw [List.getElem?_set, List.getElem?_zipWith, List.getElem?_zipWith, List.getElem?_set, List.getElem?_set]
    have := h.len
    by_cases hq : q = i
    · subst hq
      by_cases hl : q < ls.length
      · simp [h.len, hl, hdrV]
      · simp [h.len, hl]
    · simp [hq]
  refine ⟨by simp [h.len], ?_, fun i a l ha hl => ?_⟩
  · rw [List.length_set, ← hz]
    exact Reads.of_own ho
  · rw [List.getElem?_set] at ha hl
    by_cases hq : q = i
    · subst hq
      simp only [if_true] at ha hl
      split at ha <;> split at hl <;> simp at ha hl
      subst ha hl
      exact ⟨Two.none_ _ _, Nat.le_refl _⟩
    · rw [if_neg hq] at ha hl
      have := h.row i a l ha hl
      exact ⟨this.1.up hb, this.2⟩

set_option maxRecDepth 100000 in
set_option maxHeartbeats 4000000 in
theorem refwith_any (n : Int) (A : Option Addr) (c : Nat) (hs : List Hdr) (ls : List (List Offer)) (b : Int) (w : World) (h : Buys w w.heap.size A hs ls) (hl : ls.length ≤ 1000000) (hls : BLens ls) (hw : BWide ls) :
    Calls Try.prog 39 #[instV n A ls.length c, .int .i64 b, .slice none 0 0] w (RWithPost n ls b w) := by
  have hB : Below w.heap.size w ((w.alloc (.cells #[.int .i64 n, .slice A ls.length c] 24)).alloc (.cells #[.int .i64 0, .slice none 0 0] 24)) := ((Below.refl _ _).alloc (Nat.le_refl _) _).alloc (by simp) _
  have HI : Hid (∀ W, Below w.heap.size w W → Calls Try.prog 37 #[instV n A ls.length c] W (IntPost (instE n ls) W)) := hide (fun W hb => inst08_any n A c hs ls W (h.up hb) hl hls hw)
  have HC : Hid (∀ W, Calls Try.prog 50 #[.int .i64 n, .slice none 0 0] W (CheckPost n [] W)) := hide (fun W => check08_any n none 0 [] W (Two.none_ _ _) (by simp) (fun o ho => by cases ho))
  unfold CheckPost at HC
  have HBB := hide hB
  have HXX : Hid (∀ (W w1 : World), Below (w.heap.size + 2) W w1 → W.heap[w.heap.size]? = some (.cells #[.int .i64 n, .slice A ls.length c] 24 (0, 0)) → W.heap[w.heap.size + 1]? = some (.cells #[.int .i64 0, .slice none 0 0] 24 (0, 0)) →
      (w1.heap[w.heap.size]? = some (.cells #[.int .i64 n, .slice A ls.length c] 24 (0, 0)) ∧ w1.heap[w.heap.size + 1]? = some (.cells #[.int .i64 0, .slice none 0 0] 24 (0, 0)))) :=
    hide (fun W w1 hb h1 h2 => ⟨(hb.block _ (by omega)).trans h1, (hb.block _ (by omega)).trans h2⟩)
  have HST : Hid (((w.alloc (.cells #[.int .i64 n, .slice A ls.length c] 24)).alloc (.cells #[.int .i64 0, .slice none 0 0] 24)).heap[w.heap.size]? = some (.cells #[.int .i64 n, .slice A ls.length c] 24 (0, 0)) ∧
      ((w.alloc (.cells #[.int .i64 n, .slice A ls.length c] 24)).alloc (.cells #[.int .i64 0, .slice none 0 0] 24)).heap[w.heap.size + 1]? = some (.cells #[.int .i64 0, .slice none 0 0] 24 (0, 0))) := hide ⟨by
    rw [Below.heap_alloc _ _ _ (by simp)]; exact heap_alloc_new w _, by
    have := heap_alloc_new (w.alloc (.cells #[.int .i64 n, .slice A ls.length c] 24)) (.cells #[.int .i64 0, .slice none 0 0] 24)
    simpa using this⟩
  have hcells : ∀ (W : World), (W.heap[w.heap.size]? = some (.cells #[.int .i64 n, .slice A ls.length c] 24 (0, 0)) ∧ W.heap[w.heap.size + 1]? = some (.cells #[.int .i64 0, .slice none 0 0] 24 (0, 0))) →
      W.cell? ⟨w.heap.size, 0, none⟩ = some (.int .i64 n) ∧ W.cell? ⟨w.heap.size, 1, none⟩ = some (.slice A ls.length c) ∧ W.cell? ⟨w.heap.size + 1, 0, none⟩ = some (.int .i64 0) ∧ W.cell? ⟨w.heap.size + 1, 1, none⟩ = some (.slice none 0 0) ∧ (∀ i, W.frozen? ⟨w.heap.size + 1, i, none⟩ = false) :=
    fun W ⟨h1, h2⟩ => ⟨cell_of_row W _ 0 _ _ (0, 0) h1, cell_of_row W _ 1 _ _ (0, 0) h1, cell_of_row W _ 0 _ _ (0, 0) h2, cell_of_row W _ 1 _ _ (0, 0) h2, fun i => by simp [World.frozen?, h2]⟩
  have HCE := hide hcells
  by_cases hi : instE n ls = 0
  · have hg := instE_good hw hi
    by_cases hb0 : b < 0 ∨ (ls.length : Int) ≤ b
    · have hwe : withE n ls b [] = 2 := by unfold withE; rw [if_neg (by simpa using hi), if_pos hb0]
      rw [hi] at HI
      have HWE := hide hwe
      clear hi hwe hB hcells h hw hls hg
      simp only [instV] at *
      have hb1 : (decide (b < 0) = true) ∨ (decide (b < 0) = false ∧ decide (b ≥ (ls.length : Int)) = true) := by
        rcases Int.lt_or_le b 0 with h | h
        · exact .inl (by simpa using h)
        · exact .inr ⟨by simp; omega, by simp; omega⟩
      rcases hb1 with hb1 | ⟨hb1, hb2⟩
      all_goals
        have hb1' := hb1
        simp only [decide_eq_true_eq, decide_eq_false_iff_not] at hb1'
        go_enter Try.func39, Try.ntmps39
        go_wp2_with (go_at_call 37; refine (HI.out _ HBB.out).mono ?_; rintro e w1 ⟨rfl, hb1⟩; have HX1 := hide (HXX.out _ w1 (hb1.mono (by simp)) HST.out.1 HST.out.2); obtain ⟨x0, x1, y0, y1, y2⟩ := HCE.out w1 HX1.out; have HB1 : Hid (Below w.heap.size w w1) := hide (HBB.out.trans (hb1.mono (by simp; omega))); clear hb1)
        refine bodyPost_ret (v := .tuple #[.agg #[.int .i64 0, .slice none 0 0], .int .i64 2]) (by simp [results, Try.results39, go_sem, y0, y1]) rfl ?_
        refine .inl ⟨by rw [HWE.out]; simp, by rw [HWE.out], ?_⟩
        repeat (refine Below.setCell ?_ (by show w.heap.size ≤ w.heap.size + 1; omega) _)
        exact HB1.out
    · have hwe : withE n ls b [] = 0 := by unfold withE; rw [if_neg (by simpa using hi), if_neg hb0, checkO_nil hg.lo hg.hi]
      rw [checkO_nil hg.lo hg.hi] at HC
      rw [hi] at HI
      have HWE := hide hwe
      obtain ⟨q, rfl⟩ : ∃ q : Nat, b = q := ⟨b.toNat, by omega⟩
      have hq : q < ls.length := by omega
      have hql : (q : Int) < (ls.length : Int) := by omega
      have HA := hide h
      have HZL : Hid ((List.zipWith hdrV hs ls).length = ls.length) := hide (by simp [h.len])
      have G1 : Hid (∀ u ∈ List.zipWith hdrV hs ls, u.oneCell' = true) := hide (fun u hu => by
        obtain ⟨i, hi, rfl⟩ := List.getElem_of_mem hu
        rw [List.getElem_zipWith]; rfl)
      have G2 : Hid (0 + ls.length ≤ maxLen) := hide (by unfold maxLen; omega)
      have G3 : Hid ((0 + ls.length) * 24 ≤ 140737488355328) := hide (by omega)
      clear hi hwe hB hcells h hw hls hg hb0
      simp only [instV] at *
      go_enter Try.func39, Try.ntmps39
      go_upto_region 10 with (first | (go_at_call 37; refine (HI.out _ HBB.out).mono ?_; rintro e w1 ⟨rfl, hb1⟩; have HX1 := hide (HXX.out _ w1 (hb1.mono (by simp)) HST.out.1 HST.out.2); obtain ⟨x0, x1, y0, y1, y2⟩ := HCE.out w1 HX1.out; have HB1 : Hid (Below w.heap.size w w1) := hide (HBB.out.trans (hb1.mono (by simp; omega))); have HZ1 : Hid (w.heap.size + 2 ≤ w1.heap.size) := hide (by have := hb1.size; simpa using this); clear hb1) | (go_at_call 50; refine (HC.out _).mono ?_; rintro e w2 ⟨rfl, hb2⟩; have HX2 := hide (HXX.out _ w2 (hb2.mono HZ1.out) HX1.out.1 HX1.out.2); clear x0 x1 y0 y1 y2; obtain ⟨x0, x1, y0, y1, y2⟩ := HCE.out w2 HX2.out; have HB2 : Hid (Below w.heap.size w w2) := hide (HB1.out.trans (hb2.mono HB1.out.size)); have HZ2 : Hid (w.heap.size + 2 ≤ w2.heap.size) := hide (by have := hb2.size; have := HZ1.out; omega); clear hb2))
      have hx3 := HXX.out w2 (w2.alloc (.cells #[.int .i64 n, .slice none 0 0] 24)) ((Below.refl _ _).alloc HZ2.out _) HX2.out.1 HX2.out.2
      have HY3 : Hid ((w2.alloc (.cells #[.int .i64 n, .slice none 0 0] 24)).heap[w2.heap.size]? = some (.cells #[.int .i64 n, .slice none 0 0] 24 (0, 0))) := hide (heap_alloc_new w2 _)
      have HB3 : Hid (Below w.heap.size w (w2.alloc (.cells #[.int .i64 n, .slice none 0 0] 24))) := hide (HB2.out.alloc HB2.out.size _)
      have HZ3 : Hid ((w2.alloc (.cells #[.int .i64 n, .slice none 0 0] 24)).heap.size = w2.heap.size + 1) := hide (by simp)
      have HX3 := hide hx3
      generalize w2.alloc (.cells #[.int .i64 n, .slice none 0 0] 24) = w3 at *
      clear x0 x1 y0 y1 y2 hx3
      obtain ⟨x0, x1, y0, y1, y2⟩ := HCE.out w3 HX3.out
      have u0 := cell_of_row w3 w2.heap.size 0 _ _ (0, 0) HY3.out
      have u1 := cell_of_row w3 w2.heap.size 1 _ _ (0, 0) HY3.out
      simp at u0 u1
      have u2 : ∀ i, w3.frozen? ⟨w2.heap.size, i, none⟩ = false := fun i => by simp [World.frozen?, HY3.out]
      have HR3 : Hid (Reads w3 w3.heap.size 1 A ls.length (List.zipWith hdrV hs ls)) := hide (HA.out.up HB3.out).hdr
      go_upto_region 11 with (at_builtin; refine wpList_append_any rfl (.tmp 43) (.tmp 45) 22 rfl w3.heap.size 52 (.slice none 0 0) 1 24 infoOs Try.underlying22 rfl (by decide) _ 0 [] rfl (World.ownsRow_nil _ _ _ _) w3.heap.size A ls.length c (List.zipWith hdrV hs ls) rfl HR3.out G1.out G2.out G3.out (Nat.le_refl _) ?_; intro v4 w4 hown4 hg4 _; rw [Nat.zero_add, List.nil_append] at hown4; obtain ⟨A4, c4, hv4, _⟩ := own_sh hown4; subst hv4; have HO4 := hide hown4; have HG4 : Hid (w3.grownBy w4 none) := hide hg4; have HB4 : Hid (Below w3.heap.size w3 w4) := hide ((Below.refl _ _).grown hg4 (Nat.le_refl _) (fun j hj => by cases hj)); have HY4 : Hid (w4.heap[w2.heap.size]? = some (.cells #[.int .i64 n, .slice none 0 0] 24 (0, 0))) := hide ((hg4.block _ (lt_of_block HY3.out) (by intro e; cases e)).trans HY3.out); have z1 := cell_of_row w4 w2.heap.size 1 _ _ (0, 0) HY4.out; simp at z1; have z2 : ∀ i, w4.frozen? ⟨w2.heap.size, i, none⟩ = false := (fun i => by simp [World.frozen?, HY4.out]); clear hown4 hg4)
      obtain ⟨g, cap, hv4⟩ := Go.Joins.ownsRow_form HO4.out (by omega)
      have hge := (HO4.out.lt g (by rw [hv4]; rfl)).1
      injection hv4 with hA4 _ hc4
      subst hA4 hc4
      have HGE : Hid (w2.heap.size + 1 ≤ g) := hide (by rw [HZ3.out] at hge; exact hge)
      have HO5 : Hid ((w4.setCell ⟨w2.heap.size, 1, none⟩ (.slice (some ⟨g, 0, none⟩) ls.length c4)).ownsRow w3.heap.size 52 1 (.slice (some ⟨g, 0, none⟩) ls.length c4) ls.length (List.zipWith hdrV hs ls)) := hide (ownsRow_setCell_other HO4.out (fun e => by have h1 := Option.some.inj (show some g = some w2.heap.size from e); have := HGE.out; omega) _)
      have HY5 : Hid ((w4.setCell ⟨w2.heap.size, 1, none⟩ (.slice (some ⟨g, 0, none⟩) ls.length c4)).heap[w2.heap.size]? = some (.cells #[.int .i64 n, .slice (some ⟨g, 0, none⟩) ls.length c4] 24 (0, 0))) := hide (setCell_block HY4.out 1 _)
      have HX5 := hide (HXX.out w4 (w4.setCell ⟨w2.heap.size, 1, none⟩ (.slice (some ⟨g, 0, none⟩) ls.length c4)) ((Below.refl _ _).setCell (by show w.heap.size + 2 ≤ w2.heap.size; exact HZ2.out) _) (HXX.out w3 w4 (HB4.out.mono (by rw [HZ3.out]; have := HZ2.out; omega)) HX3.out.1 HX3.out.2).1 (HXX.out w3 w4 (HB4.out.mono (by rw [HZ3.out]; have := HZ2.out; omega)) HX3.out.1 HX3.out.2).2)
      have HB5 : Hid (Below w.heap.size w (w4.setCell ⟨w2.heap.size, 1, none⟩ (.slice (some ⟨g, 0, none⟩) ls.length c4))) := hide ((HB3.out.trans (HB4.out.mono HB3.out.size)).setCell (by show w.heap.size ≤ w2.heap.size; exact HB2.out.size) _)
      clear x0 x1 y0 y1 y2 u0 u1 u2 z1 z2 HO4 HY4 HG4 hge
      generalize w4.setCell ⟨w2.heap.size, 1, none⟩ (.slice (some ⟨g, 0, none⟩) ls.length c4) = w5 at *
      have u1 := cell_of_row w5 w2.heap.size 1 _ _ (0, 0) HY5.out
      simp at u1
      have hcl : w5.cell? ⟨g, q, none⟩ = (List.zipWith hdrV hs ls)[q]? := HO5.out.cellAt q (by omega)
      rw [List.getElem?_eq_getElem (by rw [HZL.out]; exact hq)] at hcl
      have hfz := HO5.out.frozenAt q
      generalize (List.zipWith hdrV hs ls)[q]'(by rw [HZL.out]; exact hq) = old at hcl
      have HS6 := hide (HO5.out.stored q (.slice none 0 0)).1
      have HY6 : Hid ((w5.setCell ⟨g, q, none⟩ (.slice none 0 0)).heap[w2.heap.size]? = some (.cells #[.int .i64 n, .slice (some ⟨g, 0, none⟩) ls.length c4] 24 (0, 0))) := hide ((Below.heap_setCell w5 ⟨g, q, none⟩ _ _ (by have := HGE.out; simp; omega)).trans HY5.out)
      have HX6 := hide (HXX.out w5 (w5.setCell ⟨g, q, none⟩ (.slice none 0 0)) ((Below.refl _ _).setCell (by show w.heap.size + 2 ≤ g; have := HGE.out; have := HZ2.out; omega) _) HX5.out.1 HX5.out.2)
      have HB6 : Hid (Below w.heap.size w (w5.setCell ⟨g, q, none⟩ (.slice none 0 0))) := hide (HB5.out.setCell (by show w.heap.size ≤ g; have := HGE.out; have := HB2.out.size; omega) _)
      go_upto_region 12 with fail
      clear u1 hcl hfz
      generalize w5.setCell ⟨g, q, none⟩ (.slice none 0 0) = w6 at *
      have u0 := cell_of_row w6 w2.heap.size 0 _ _ (0, 0) HY6.out
      have u1 := cell_of_row w6 w2.heap.size 1 _ _ (0, 0) HY6.out
      simp at u0 u1
      obtain ⟨x0, x1, y0, y1, y2⟩ := HCE.out w6 HX6.out
      go_wp2_with fail
      refine bodyPost_ret (v := .tuple #[.agg #[.int .i64 n, .slice (some ⟨g, 0, none⟩) ls.length c4], .int .i64 0]) (by simp [results, Try.results39, go_sem, y0, y1]) rfl ?_
      refine .inr ⟨HWE.out, some ⟨g, 0, none⟩, c4, hs.set q (none, 0), rfl, ?_, ?_⟩
      · rw [Int.toNat_natCast]
        have hf : ∀ {W : World} {i : Nat} {u v : Value} {xs : List Value} {m : Nat}, W.ownsRow w3.heap.size 52 1 v m xs → (W.setCell ⟨w.heap.size + 1, i, none⟩ u).ownsRow w3.heap.size 52 1 v m xs :=
          fun h => ownsRow_setCell_other h (fun e => by have h5 := (h.lt _ e).1; have h6 := HZ3.out; have h7 := HZ2.out; change _ ≤ w.heap.size + 1 at h5; omega) _
        refine HA.out.put ?_ (hf (hf HS6.out))
        repeat (refine Below.setCell ?_ (by show w.heap.size ≤ w.heap.size + 1; omega) _)
        exact HB6.out
      · repeat (refine Below.setCell ?_ (by show w.heap.size ≤ w.heap.size + 1; omega) _)
        exact HB6.out
  · have hwe : withE n ls b [] = instE n ls := by unfold withE; rw [if_pos hi]
    have hi' : (instE n ls != 0) = true := by simpa using hi
    have HWE := hide hwe
    generalize instE n ls = we at *
    clear hwe h hw hls hB hcells
    simp only [instV] at *
    go_enter Try.func39, Try.ntmps39
    go_wp2_with (go_at_call 37; refine (HI.out _ HBB.out).mono ?_; rintro e w1 ⟨rfl, hb1⟩; have HX1 := hide (HXX.out _ w1 (hb1.mono (by simp)) HST.out.1 HST.out.2); obtain ⟨x0, x1, y0, y1, y2⟩ := HCE.out w1 HX1.out; have HB1 : Hid (Below w.heap.size w w1) := hide (HBB.out.trans (hb1.mono (by simp; omega))); clear hb1)
    refine bodyPost_ret (v := .tuple #[.agg #[.int .i64 0, .slice none 0 0], .int .i64 we]) (by simp [results, Try.results39, go_sem, y0, y1]) rfl ?_
    refine .inl ⟨by rw [HWE.out]; exact hi, by rw [HWE.out], ?_⟩
    repeat (refine Below.setCell ?_ (by show w.heap.size ≤ w.heap.size + 1; omega) _)
    exact HB1.out
set_option maxRecDepth 100000 in
set_option maxHeartbeats 2000000 in
theorem refless_any (n : Int) (A : Option Addr) (c : Nat) (hs : List Hdr) (ls : List (List Offer)) (b : Int) (w : World) (h : Buys w w.heap.size A hs ls) (hl : ls.length ≤ 1000000) (hls : BLens ls) (hw : BWide ls) :
    Calls Try.prog 20 #[instV n A ls.length c, .int .i64 b] w (ClearPost (lessI n ls b) w) := by
  have HB : Hid (Below w.heap.size w ((w.alloc (.cells #[.int .i64 n, .slice A ls.length c] 24)).alloc (.cells #[.slice none 0 0, .int .i64 0] 35))) := hide (((Below.refl _ _).alloc (Nat.le_refl _) _).alloc (by simp) _)
  have HX : Hid (((w.alloc (.cells #[.int .i64 n, .slice A ls.length c] 24)).alloc (.cells #[.slice none 0 0, .int .i64 0] 35)).heap[w.heap.size + 1]? = some (.cells #[.slice none 0 0, .int .i64 0] 35 (0, 0))) := hide (by
    have := heap_alloc_new (w.alloc (.cells #[.int .i64 n, .slice A ls.length c] 24)) (.cells #[.slice none 0 0, .int .i64 0] 35)
    simpa using this)
  have HWO := hide (refwith_any n A c hs ls b _ (h.up HB.out) hl hls hw)
  have HBE : Hid (∀ (A' : Option Addr) (c' : Nat) (hs' : List Hdr) (ls' : List (List Offer)) (W : World), Buys W W.heap.size A' hs' ls' → ls'.length ≤ 1000000 → BLens ls' → BWide ls' → Calls Try.prog 19 #[instV n A' ls'.length c'] W (ClearPost (bestI n ls') W)) :=
    hide (fun A' c' hs' ls' W h1 h2 h3 h4 => refbest_any n A' c' hs' ls' W h1 h2 h3 h4)
  have HLS := hide hls
  have HWD := hide hw
  clear h hls hw
  simp only [instV] at *
  go_enter Try.func20, Try.ntmps20
  go_wp2_with fail
  refine (HWO.out).mono ?_
  rintro e w1 (⟨hne, rfl, hb1⟩ | ⟨h0, A', c', hs', rfl, hown, hb1⟩)
  · have HR : Hid (lessI n ls b = (([], 0), withE n ls b [])) := hide (by unfold lessI; rw [if_pos hne])
    have hne' : (withE n ls b [] != 0) = true := by simpa using hne
    have hx1 : w1.heap[w.heap.size + 1]? = some (.cells #[.slice none 0 0, .int .i64 0] 35 (0, 0)) := (hb1.block _ (by simp)).trans HX.out
    have hl1 := lt_of_block hx1
    have HX1 := hide hx1
    have HB1 : Hid (Below w.heap.size w w1) := hide (HB.out.trans (hb1.mono (by simp; omega)))
    generalize withE n ls b [] = z at *
    clear hb1 hx1 hne
    simp only [instV]
    go_upto_region 2 with fail
    have hx2 : (w1.alloc (.cells #[.int .i64 0, .slice none 0 0] 24)).heap[w.heap.size + 1]? = some (.cells #[.slice none 0 0, .int .i64 0] 35 (0, 0)) := (Below.heap_alloc _ _ _ hl1).trans HX1.out
    have HB2 : Hid (Below w.heap.size w (w1.alloc (.cells #[.int .i64 0, .slice none 0 0] 24))) := hide (HB1.out.alloc HB1.out.size _)
    generalize w1.alloc (.cells #[.int .i64 0, .slice none 0 0] 24) = w2 at *
    have y0 : w2.cell? ⟨w.heap.size + 1, 0, none⟩ = some (.slice none 0 0) := cell_of_row w2 (w.heap.size + 1) 0 _ _ (0, 0) hx2
    have y1 : w2.cell? ⟨w.heap.size + 1, 1, none⟩ = some (.int .i64 0) := cell_of_row w2 (w.heap.size + 1) 1 _ _ (0, 0) hx2
    have y2 : ∀ i, w2.frozen? ⟨w.heap.size + 1, i, none⟩ = false := fun i => by simp [World.frozen?, hx2]
    clear hx2
    go_wp2_with fail
    refine bodyPost_ret (v := .tuple #[.agg #[.slice none 0 0, .int .i64 0], .int .i64 z]) (by simp [results, Try.results20, go_sem, y0, y1]) rfl ?_
    refine ⟨_, by rw [HR.out], by rw [HR.out]; exact World.ownsRow_nil _ _ _ _, ?_⟩
    repeat (refine Below.setCell ?_ (by show w.heap.size ≤ w.heap.size + 1; omega) _)
    exact HB2.out
  · have HR : Hid (lessI n ls b = bestI n (ls.set b.toNat [])) := hide (by unfold lessI; rw [if_neg (by simpa using h0)])
    have hx1 : w1.heap[w.heap.size + 1]? = some (.cells #[.slice none 0 0, .int .i64 0] 35 (0, 0)) := (hb1.block _ (by simp)).trans HX.out
    have HX1 := hide hx1
    have HB1 : Hid (Below w.heap.size w w1) := hide (HB.out.trans (hb1.mono (by simp; omega)))
    have HB2 : Hid (Below w1.heap.size w1 (w1.alloc (.cells #[.int .i64 n, .slice A' ls.length c'] 24))) := hide ((Below.refl _ _).alloc (Nat.le_refl _) _)
    have HBC0 := (HBE.out A' c' hs' (ls.set b.toNat []) _ (hown.up HB2.out) (by simpa using hl) (fun l hl' => by
      rcases List.mem_or_eq_of_mem_set hl' with h1 | h1
      · exact HLS.out l h1
      · subst h1; simp) (fun l hl' => by
      rcases List.mem_or_eq_of_mem_set hl' with h1 | h1
      · exact HWD.out l h1
      · subst h1; exact fun o ho => by cases ho))
    rw [List.length_set] at HBC0
    have HBC := hide HBC0
    clear HBC0
    generalize ls.set b.toNat [] = ls2 at *
    generalize bestI n ls2 = r at *
    obtain ⟨⟨ch, bw⟩, er⟩ := r
    clear hb1 hx1 hown h0
    simp only [instV] at *
    go_wp2_with fail
    refine (HBC.out).mono ?_
    rintro e w3 ⟨v, rfl, hown, hb3⟩
    obtain ⟨A3, c3, rfl, _⟩ := own_sh hown
    have hl1 := lt_of_block HX1.out
    have hx3 : w3.heap[w.heap.size + 1]? = some (.cells #[.slice none 0 0, .int .i64 0] 35 (0, 0)) := (hb3.block _ (by simp; omega)).trans ((Below.heap_alloc _ _ _ hl1).trans HX1.out)
    have y0 : w3.cell? ⟨w.heap.size + 1, 0, none⟩ = some (.slice none 0 0) := cell_of_row w3 (w.heap.size + 1) 0 _ _ (0, 0) hx3
    have y1 : w3.cell? ⟨w.heap.size + 1, 1, none⟩ = some (.int .i64 0) := cell_of_row w3 (w.heap.size + 1) 1 _ _ (0, 0) hx3
    have y2 : ∀ i, w3.frozen? ⟨w.heap.size + 1, i, none⟩ = false := fun i => by simp [World.frozen?, hx3]
    have HB3 : Hid (Below w.heap.size w w3) := hide ((HB1.out.alloc HB1.out.size _).trans (hb3.mono (by have := HB1.out.size; simp; omega)))
    have HO := hide hown
    have HZ1 : Hid (w.heap.size + 2 ≤ w1.heap.size) := hide (by omega)
    clear hown hb3 hx3
    go_wp2_with fail
    refine bodyPost_ret (v := .tuple #[.agg #[.slice A3 ch.length c3, .int .i64 bw], .int .i64 er]) (by simp [results, Try.results20, go_sem, y0, y1]) rfl ?_
    refine ⟨_, by rw [HR.out], ?_, ?_⟩
    · rw [HR.out]
      have ho := HO.out
      simp only [World.size_alloc] at ho
      have hf : ∀ {W : World} {i : Nat} {u v : Value} {xs : List Value} {n : Nat}, W.ownsRow (w1.heap.size + 1) 3 1 v n xs → (W.setCell ⟨w.heap.size + 1, i, none⟩ u).ownsRow (w1.heap.size + 1) 3 1 v n xs :=
        fun h => ownsRow_setCell_other h (fun e => by have h5 := (h.lt _ e).1; have h6 := HZ1.out; change _ ≤ w.heap.size + 1 at h5; omega) _
      exact own_base (hf (hf ho)) (by have := HZ1.out; omega)
    · repeat (refine Below.setCell ?_ (by show w.heap.size ≤ w.heap.size + 1; omega) _)
      exact HB3.out
end Go.Proofs.Ytkjmpenaifhfjaa
