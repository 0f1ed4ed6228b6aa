/- The walks of the document's Check, bound, Bound, Rest, Supports; of prices.Supports. -/
import Derived.Test.YtinkieogcpidkaaDoorPriF
namespace Go.Proofs.YtinkieogcpidkaaDoor
open Go.RowKit Go.Maps Go.Shelf
open Go.ChangeMaps Go.WideMaps

set_option maxRecDepth 100000 in
set_option maxHeartbeats 4000000 in
theorem refcheck_any (n : Int) (A : Option Addr) (c : Nat) (hs : List Hdr) (ls : List (List Offer)) (P : Option Addr) (pc : Nat) (p : List Int) (w : World)
    (hB : Buys w w.heap.size A hs ls) (hl : ls.length ≤ 1000000) (hls : BLens ls) (hw : BWide ls) (hp : One intV w w.heap.size P p) (hpl : p.length ≤ 1000000) :
    Calls Tryd.prog 33 #[instV n A ls.length c, .slice P p.length pc] w (ValPost (.int .i64 (priE n ls p)) w) := by
  have HI := hide (fun W (hb : Below w.heap.size w W) => inst08_any n A c hs ls W (hB.up hb) hl hls hw)
  have hat := One.at_ hp
  have HB0 : Hid (Below w.heap.size w (w.alloc (.cells #[.int .i64 n, .slice A ls.length c] 24))) := hide ((Below.refl _ _).alloc (Nat.le_refl _) _)
  have HX0 : Hid ((w.alloc (.cells #[.int .i64 n, .slice A ls.length c] 24)).heap[w.heap.size]? = some (.cells #[.int .i64 n, .slice A ls.length c] 24 (0, 0))) := hide (heap_alloc_new w _)
  clear hB hls hw hp
  simp only [instV] at *
  go_enter Tryd.func33, Tryd.ntmps33
  go_upto_region 1 with fail
  generalize w.alloc (.cells #[.int .i64 n, .slice A ls.length c] 24) = w0 at *
  have x0 := cell_of_row _ _ 0 _ _ (0, 0) HX0.out
  have x1 := cell_of_row _ _ 1 _ _ (0, 0) HX0.out
  simp only [List.getElem?_toArray, List.getElem?_cons_zero, List.getElem?_cons_succ] at x0 x1
  have HC := hide (HI.out w0 HB0.out)
  obtain ⟨ie, hie⟩ : ∃ ie, instE n ls = ie := ⟨_, rfl⟩
  rw [hie] at HC
  have HIE := hide hie
  clear hie
  go_upto_region 2 with (go_at_call 20; refine (HC.out).mono ?_; rintro e w1 ⟨rfl, hb1⟩; have HB1 := hide (HB0.out.trans (hb1.mono HB0.out.size)); have HX1 := hide ((hb1.block _ (lt_of_block HX0.out)).trans HX0.out); clear hb1)
  clear x0 x1 HC HB0 HX0 HI
  have x0 := cell_of_row _ _ 0 _ _ (0, 0) HX1.out
  simp only [List.getElem?_toArray, List.getElem?_cons_zero] at x0
  by_cases h0 : ie = 0
  case neg =>
    have HE : Hid (priE n ls p = ie) := hide (by unfold priE; rw [HIE.out, if_pos h0])
    have hne : (ie != 0) = true := by simpa using h0
    go_wp2_with fail
    go_ret
    exact ⟨by rw [HE.out]; rfl, HB1.out⟩
  subst h0
  by_cases h1 : (p.length : Int) = n
  case neg =>
    have HE : Hid (priE n ls p = 2) := hide (by unfold priE; rw [HIE.out, if_neg (by simp), if_pos h1])
    have hne : ((p.length : Int) != n) = true := by simpa using h1
    go_wp2_with fail
    go_ret
    exact ⟨by rw [HE.out]; rfl, HB1.out⟩
  subst h1
  have hne : ((p.length : Int) != (p.length : Int)) = false := by simp
  have HE2 : Hid (p.any badP = true → priE (p.length : Int) ls p = 2) := hide (fun h => by unfold priE; rw [HIE.out, if_neg (by simp), if_neg (by simp), if_pos h])
  have HE0 : Hid (p.any badP = false → priE (p.length : Int) ls p = 0) := hide (fun h => by unfold priE; rw [HIE.out, if_neg (by simp), if_neg (by simp), h]; rfl)
  go_wp2_with fail
  clear x0
  go_loopw [6] (fun iv wr => ∃ k : Nat, k ≤ p.length ∧ iv = .int .i64 k ∧ (∀ (j : Nat) y, j < k → p[j]? = some y → badP y = false) ∧ w1 = wr) (fun iv _ => p.length - (intOf iv).toNat)
  case atStart => exact ⟨0, Nat.zero_le _, rfl, fun j y hj => absurd hj (by omega), by trivial⟩
  case round =>
    obtain ⟨k, hk, rfl, hno, rfl⟩ := hrel
    have HN := hide hno
    clear hno
    by_cases hlt : k < p.length
    · obtain ⟨b, o, rfl, hbB, hcc⟩ := hat (by omega)
      obtain ⟨x, hx⟩ : ∃ x, p[k]? = some x := ⟨p[k], List.getElem?_eq_getElem hlt⟩
      have d0 := (HB1.out.cell (p := ⟨b, o + k, none⟩) hbB).trans (hcc k x hx)
      have hki : (k : Int) < (p.length : Int) := by omega
      have HX := hide hx
      clear hcc hx
      by_cases q1 : x < 0
      · have e1 : decide (x < 0) = true := decide_eq_true q1
        have HR := hide (HE2.out (any_yes HX.out (by unfold badP; rw [e1]; rfl)))
        go_wp2_with fail
        go_ret
        exact ⟨by rw [HR.out]; rfl, HB1.out⟩
      · have e1 : decide (x < 0) = false := decide_eq_false q1
        by_cases q2 : (1099511627776 : Int) < x
        · have e2 : decide ((1099511627776 : Int) < x) = true := decide_eq_true q2
          have HR := hide (HE2.out (any_yes HX.out (by unfold badP; rw [e1, e2]; rfl)))
          go_wp2_with fail
          go_ret
          exact ⟨by rw [HR.out]; rfl, HB1.out⟩
        · have e2 : decide ((1099511627776 : Int) < x) = false := decide_eq_false q2
          have HG : Hid (badP x = false) := hide (by unfold badP; rw [e1, e2]; rfl)
          go_wp2_with fail
          go_roundw
          case rel => exact ⟨k + 1, by omega, by go_num, no_next HN.out HX.out HG.out, by trivial⟩
          case measure => simp [intOf]; omega
    · obtain rfl : k = p.length := by omega
      have HR := hide (HE0.out (any_no HN.out))
      go_wp2_with fail
      go_ret
      exact ⟨by rw [HR.out]; rfl, HB1.out⟩

set_option maxRecDepth 100000 in
set_option maxHeartbeats 4000000 in
theorem refrest_any (n : Int) (A : Option Addr) (c : Nat) (hs : List Hdr) (ls : List (List Offer)) (k : Nat) (hk : k ≤ ls.length) (free : Nat) (hf : free < 4294967296) (P : Option Addr) (pc : Nat) (p : List Int) (w : World)
    (hB : Buys w w.heap.size A hs ls) (hl : ls.length ≤ 1000000) (hls : BLens ls) (hw : BWide ls) (hp : One intV w w.heap.size P p) (hpl : p.length ≤ 1000000) :
    Calls Tryd.prog 34 #[instV n A ls.length c, .int .i64 k, .int .u32 (free : Int), .slice P p.length pc] w (ValPost (.int .i64 (restC (cntP p) free ls k)) w) := by
  have HBY := hide hB
  have HLL := hide hls
  have HW := hide hw
  have HPP := hide hp
  have HB0 : Hid (Below w.heap.size w (w.alloc (.cells #[.int .i64 n, .slice A ls.length c] 24))) := hide ((Below.refl _ _).alloc (Nat.le_refl _) _)
  have HX0 : Hid ((w.alloc (.cells #[.int .i64 n, .slice A ls.length c] 24)).heap[w.heap.size]? = some (.cells #[.int .i64 n, .slice A ls.length c] 24 (0, 0))) := hide (heap_alloc_new w _)
  obtain ⟨cnt, hcnt⟩ : ∃ cnt, cnt = cntP p := ⟨_, rfl⟩
  have HCN := hide hcnt
  rw [← hcnt]
  clear hB hls hw hp hcnt
  simp only [instV] at *
  go_enter Tryd.func34, Tryd.ntmps34
  go_upto_region 1 with fail
  generalize w.alloc (.cells #[.int .i64 n, .slice A ls.length c] 24) = w0 at *
  have HCL := hide (refcost_any P pc p free hf w0 (HPP.out.up HB0.out) hpl)
  rw [← HCN.out] at HCL
  go_wp2_with (go_at_call 28; refine (HCL.out).mono ?_; rintro e w1 ⟨rfl, hb1⟩; have HB1 := hide (HB0.out.trans (hb1.mono HB0.out.size)); have HX1 := hide ((hb1.block _ (lt_of_block HX0.out)).trans HX0.out); have hsz1 := hb1.size; clear hb1)
  have HL0 : Hid (w.heap.size < w1.heap.size) := hide (lt_of_block HX1.out)
  clear HCL HB0 HX0 hsz1
  go_loopw [9, 10] (fun sv iv wr => ∃ m : Nat, k + m ≤ ls.length ∧ sv = .int .i64 (restK cnt free ls k m) ∧ iv = .int .i64 ((k + m : Nat) : Int) ∧ Below w.heap.size w wr ∧ wr.heap[w.heap.size]? = some (.cells #[.int .i64 n, .slice A ls.length c] 24 (0, 0))) (fun _ iv _ => ls.length - (intOf iv).toNat)
  case atStart => exact ⟨0, by omega, rfl, rfl, HB1.out, HX1.out⟩
  case round =>
    obtain ⟨m, hm, rfl, rfl, hb, hx⟩ := hrel
    have HB := hide hb
    have HX := hide hx
    have x1 := cell_of_row _ _ 1 _ _ (0, 0) hx
    simp only [List.getElem?_toArray, List.getElem?_cons_zero, List.getElem?_cons_succ] at x1
    clear hb hx
    obtain ⟨j, hj⟩ : ∃ j, j = k + m := ⟨_, rfl⟩
    rw [← hj] at hm ⊢
    have HJ := hide hj
    by_cases hlt : j < ls.length
    · obtain ⟨b, o, rfl, hbB, hcc⟩ := HBY.out.at_ (by omega)
      obtain ⟨a, l, ha, hl1, ho, _⟩ := HBY.out.get (i := j) hlt
      obtain ⟨a1, a2⟩ := a
      have d0 := (HB.out.cell (p := ⟨b, o + j, none⟩) hbB).trans (hcc j _ l ha hl1)
      have hjl : (j : Int) < (ls.length : Int) := by omega
      have hlen := HLL.out l (List.mem_of_getElem? hl1)
      have HGN := hide (refgain_any a1 a2 l P pc p free hf wr (ho.up HB.out) hlen (HW.out l (List.mem_of_getElem? hl1)) (HPP.out.up HB.out) hpl)
      rw [← HCN.out] at HGN
      obtain ⟨s, hs⟩ : ∃ s, s = restK cnt free ls k m := ⟨_, rfl⟩
      obtain ⟨⟨gv, ga⟩, hgg⟩ : ∃ g, gainC cnt free l = g := ⟨_, rfl⟩
      obtain ⟨s', hs'⟩ : ∃ s', IntKind.i64.wrap (s + gv) = s' := ⟨_, rfl⟩
      have HS : Hid (restK cnt free ls k (m + 1) = s') := hide (by rw [rest_some (l := l) (by rw [← hj]; exact hl1), ← hs, hgg]; exact hs')
      rw [← hs]
      rw [hgg] at HGN
      clear hcc ha hl1 ho hs hgg hj
      simp only at d0
      go_wp2_with (go_at_call 26; refine (HGN.out).mono ?_; rintro e w2 ⟨rfl, hb2⟩; have HB2 := hide (HB.out.trans (hb2.mono HB.out.size)); have HX2 := hide ((hb2.block _ (lt_of_block HX.out)).trans HX.out); clear hb2)
      go_roundw
      case rel => exact ⟨m + 1, by have := HJ.out; omega, by rw [HS.out], by rw [show k + (m + 1) = j + 1 by have := HJ.out; omega]; go_num, HB2.out, HX2.out⟩
      case measure => simp [intOf]; omega
    · have HE : Hid (restC cnt free ls k = restK cnt free ls k m) := hide (by unfold restC; congr 1; have := HJ.out; omega)
      have hjl : ¬ ((j : Int) < (ls.length : Int)) := by omega
      clear hj
      go_wp2_with fail
      go_ret
      exact ⟨by rw [HE.out]; rfl, HB.out⟩
end Go.Proofs.YtinkieogcpidkaaDoor
