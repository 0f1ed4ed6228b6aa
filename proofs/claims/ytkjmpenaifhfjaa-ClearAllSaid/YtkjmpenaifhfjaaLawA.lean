/- The walks of the laws' helpers: large, small, SameInstance, known. -/
import Derived.Test.YtkjmpenaifhfjaaSame
import Derived.Test.YtkjmpenaifhfjaaRef08I
namespace Go.Proofs.Ytkjmpenaifhfjaa
open Go.RowKit Go.Maps
open Go.ChangeMaps Go.WideMaps

def LargePost (ls : List (List Offer)) (w : World) (e : Ending) (w' : World) : Prop :=
  ∃ b : Bool, e = .returned (.bool b) ∧ (b = false → ls.length ≤ 40 ∧ ∀ l ∈ ls, l.length ≤ 20) ∧ Below w.heap.size w w'
set_option maxRecDepth 100000 in
set_option maxHeartbeats 2000000 in
theorem large_any (n : Int) (A : Option Addr) (c : Nat) (hs : List Hdr) (ls : List (List Offer)) (w : World) (h : Buys w w.heap.size A hs ls) (hl : (ls.length : Int) ≤ 9223372036854775807) (hls : ∀ l ∈ ls, (l.length : Int) ≤ 9223372036854775807) :
    Calls Try.prog 8 #[instV n A ls.length c] w (LargePost ls w) := by
  have HB : Hid (Below w.heap.size w (w.alloc (.cells #[.int .i64 n, .slice A ls.length c] 24))) := hide ((Below.refl _ _).alloc (Nat.le_refl _) _)
  have HX : Hid ((w.alloc (.cells #[.int .i64 n, .slice A ls.length c] 24)).heap[w.heap.size]? = some (.cells #[.int .i64 n, .slice A ls.length c] 24 (0, 0))) := hide (heap_alloc_new w _)
  have HA := hide h
  have HL := hide hl
  have HLS := hide hls
  clear h hl hls
  simp only [instV] at *
  go_enter Try.func8, Try.ntmps8
  go_wp2_with fail
  generalize w.alloc (.cells #[.int .i64 n, .slice A ls.length c] 24) = w1 at *
  go_loopw [3] (fun iv wr => ∃ k : Nat, k ≤ ls.length ∧ k ≤ 41 ∧ iv = .int .i64 k ∧ (∀ (j : Nat) l, j < k → ls[j]? = some l → l.length ≤ 20) ∧ wr = w1) (fun iv _ => 41 - (intOf iv).toNat)
  case atStart => exact ⟨0, Nat.zero_le _, by omega, rfl, fun j l hj => absurd hj (by omega), rfl⟩
  case round =>
    obtain ⟨k, hk, hk41, rfl, hno, rfl⟩ := hrel
    have HN := hide hno
    have x1 : wr.cell? ⟨w.heap.size, 1, none⟩ = some (.slice A ls.length c) := cell_of_row wr w.heap.size 1 _ _ (0, 0) HX.out
    clear hno
    by_cases hlt : k < ls.length
    · by_cases h41 : k < 41
      · have e1 : decide ((k : Int) < (ls.length : Int)) = true := by simp; omega
        have e2 : decide ((k : Int) < 41) = true := by simp; omega
        obtain ⟨⟨a1, a2⟩, l, ha, hlx, hro, hca⟩ := HA.out.get hlt
        obtain ⟨bb, bo, rfl, hbB, hat⟩ := HA.out.at_ (by omega)
        have y1 : wr.cell? ⟨bb, bo + k, none⟩ = some (.slice a1 l.length a2) := (HB.out.cell (p := ⟨bb, bo + k, none⟩) hbB).trans (hat k _ l ha hlx)
        have hki : (k : Int) < (ls.length : Int) := by omega
        have HLX := hide hlx
        clear hat ha hlx hro hca
        by_cases h20 : 20 < l.length
        · have e3 : decide (20 < (l.length : Int)) = true := by simp; omega
          go_wp2_with fail
          go_ret
          exact ⟨true, rfl, fun h => (by cases h), HB.out⟩
        · have e3 : decide (20 < (l.length : Int)) = false := by simp; omega
          go_wp2_with fail
          refine ⟨⟨k + 1, by omega, by omega, by go_num, fun j l' hj hl' => ?_, by trivial⟩, by simp [intOf]; omega⟩
          rcases Nat.lt_or_ge j k with h1 | h1
          · exact HN.out j l' h1 hl'
          · obtain rfl : j = k := by omega
            rw [HLX.out] at hl'
            injection hl' with hl'
            subst hl'
            omega
      · have e1 : decide ((k : Int) < (ls.length : Int)) = true := by simp; omega
        have e2 : decide ((k : Int) < 41) = false := by simp; omega
        have e3 : decide (40 < (ls.length : Int)) = true := by simp; omega
        go_wp2_with fail
        go_ret
        exact ⟨true, rfl, fun h => (by cases h), HB.out⟩
    · have e1 : decide ((k : Int) < (ls.length : Int)) = false := by simp; omega
      by_cases h40 : 40 < ls.length
      · have e3 : decide (40 < (ls.length : Int)) = true := by simp; omega
        go_wp2_with fail
        go_ret
        exact ⟨true, rfl, fun h => (by cases h), HB.out⟩
      · have e3 : decide (40 < (ls.length : Int)) = false := by simp; omega
        go_wp2_with fail
        go_ret
        refine ⟨false, rfl, fun _ => ⟨by omega, fun l hl => ?_⟩, HB.out⟩
        obtain ⟨j, hj, rfl⟩ := List.getElem_of_mem hl
        exact HN.out j _ (by omega) (List.getElem?_eq_getElem hj)

set_option maxRecDepth 100000 in
set_option maxHeartbeats 2000000 in
theorem sameInst_eq (n : Int) (A : Option Addr) (c : Nat) (hs : List Hdr) (A' : Option Addr) (c' : Nat) (hs' : List Hdr) (ls : List (List Offer)) (w : World) (h : Buys w w.heap.size A hs ls) (h' : Buys w w.heap.size A' hs' ls) (hl : ls.length ≤ 1000000) (hls : BLens ls) :
    Calls Try.prog 34 #[instV n A ls.length c, instV n A' ls.length c'] w (ValPost (.bool true) w) := by
  have HB : Hid (Below w.heap.size w ((w.alloc (.cells #[.int .i64 n, .slice A ls.length c] 24)).alloc (.cells #[.int .i64 n, .slice A' ls.length c'] 24))) := hide (((Below.refl _ _).alloc (Nat.le_refl _) _).alloc (by simp) _)
  have HX : Hid (((w.alloc (.cells #[.int .i64 n, .slice A ls.length c] 24)).alloc (.cells #[.int .i64 n, .slice A' ls.length c'] 24)).heap[w.heap.size]? = some (.cells #[.int .i64 n, .slice A ls.length c] 24 (0, 0)) ∧
      ((w.alloc (.cells #[.int .i64 n, .slice A ls.length c] 24)).alloc (.cells #[.int .i64 n, .slice A' ls.length c'] 24)).heap[w.heap.size + 1]? = some (.cells #[.int .i64 n, .slice A' ls.length c'] 24 (0, 0))) := hide ⟨by
    rw [Below.heap_alloc _ _ _ (by simp)]; exact heap_alloc_new w _, by
    have := heap_alloc_new (w.alloc (.cells #[.int .i64 n, .slice A ls.length c] 24)) (.cells #[.int .i64 n, .slice A' ls.length c'] 24)
    simpa using this⟩
  have HA := hide h
  have HA' := hide h'
  have HL := hide hls
  clear h h' hls
  simp only [instV] at *
  go_enter Try.func34, Try.ntmps34
  go_wp2_with fail
  generalize (w.alloc (.cells #[.int .i64 n, .slice A ls.length c] 24)).alloc (.cells #[.int .i64 n, .slice A' ls.length c'] 24) = w1 at *
  have HZ1 : Hid (w.heap.size + 1 < w1.heap.size) := hide (lt_of_block HX.out.2)
  go_loopw [5] (fun iv wr => ∃ k : Nat, k ≤ ls.length ∧ iv = .int .i64 k ∧ Below w1.heap.size w1 wr) (fun iv _ => ls.length - (intOf iv).toNat)
  case atStart => exact ⟨0, Nat.zero_le _, rfl, Below.refl _ _⟩
  case round =>
    obtain ⟨k, hk, rfl, hb⟩ := hrel
    have HBR := hide hb
    have HBW : Hid (Below w.heap.size w wr) := hide (HB.out.trans (hb.mono (by have := HZ1.out; omega)))
    have HC : Hid (∀ W, Below w1.heap.size w1 W → W.cell? ⟨w.heap.size, 1, none⟩ = some (.slice A ls.length c) ∧ W.cell? ⟨w.heap.size + 1, 1, none⟩ = some (.slice A' ls.length c')) := hide (fun W hW => ⟨cell_of_row W w.heap.size 1 _ _ (0, 0) ((hW.block _ (lt_of_block HX.out.1)).trans HX.out.1), cell_of_row W (w.heap.size + 1) 1 _ _ (0, 0) ((hW.block _ (lt_of_block HX.out.2)).trans HX.out.2)⟩)
    obtain ⟨x1, x2⟩ := HC.out wr hb
    clear hb
    by_cases hlt : k < ls.length
    · obtain ⟨⟨a1, a2⟩, l, ha, hlx, hro, hca⟩ := HA.out.get hlt
      obtain ⟨⟨a1', a2'⟩, l', ha', hlx', hro', hca'⟩ := HA'.out.get hlt
      have hll : l' = l := by rw [hlx] at hlx'; injection hlx' with h; exact h.symm
      subst hll
      obtain ⟨bb, bo, rfl, hbB, hat⟩ := HA.out.at_ (by omega)
      obtain ⟨bb', bo', rfl, hbB', hat'⟩ := HA'.out.at_ (by omega)
      have HH : Hid (∀ W, Below w.heap.size w W → W.cell? ⟨bb, bo + k, none⟩ = some (.slice a1 l'.length a2) ∧ W.cell? ⟨bb', bo' + k, none⟩ = some (.slice a1' l'.length a2')) := hide (fun W hW => ⟨(hW.cell (p := ⟨bb, bo + k, none⟩) hbB).trans (hat k _ l' ha hlx), (hW.cell (p := ⟨bb', bo' + k, none⟩) hbB').trans (hat' k _ l' ha' hlx')⟩)
      have HSO : Hid (∀ W, Below w.heap.size w W → Calls Try.prog 47 #[.slice a1 l'.length a2, .slice a1' l'.length a2'] W (ValPost (.bool true) W)) := hide (fun W hW => by
        have := sameOffers_any a1 a2 l' a1' a2' l' W (hro.up hW) (hro'.up hW) (HL.out l' (List.mem_of_getElem? hlx))
        simpa using this)
      obtain ⟨y1, y2⟩ := HH.out wr HBW.out
      have hki : (k : Int) < (ls.length : Int) := by omega
      clear hat hat' ha ha' hlx hlx' hro hro' hca hca'
      go_wp2_with fail
      go_region_held3 (fun w' => w'.cell? ⟨w.heap.size, 1, none⟩ = some (.slice (some ⟨bb, bo, none⟩) ls.length c) ∧ w'.cell? ⟨w.heap.size + 1, 1, none⟩ = some (.slice (some ⟨bb', bo', none⟩) ls.length c') ∧ w'.cell? ⟨bb, bo + k, none⟩ = some (.slice a1 l'.length a2) ∧ w'.cell? ⟨bb', bo' + k, none⟩ = some (.slice a1' l'.length a2')) (first | exact ⟨x1, x2, y1, y2⟩ | exact ⟨r1, r2, s1, s2⟩ | go_keep) (first | (go_at_call 47; refine (HSO.out _ HBW.out.drew).mono ?_; rintro e w2 ⟨rfl, hb2⟩; have HB2 : Hid (Below w1.heap.size w1 w2) := hide (HBR.out.drew.trans (hb2.mono (by have := HBR.out.size; simpa using this))); obtain ⟨r1, r2⟩ := HC.out w2 HB2.out; obtain ⟨s1, s2⟩ := HH.out w2 (HB.out.trans (HB2.out.mono (by have := HZ1.out; omega))); clear hb2))
      go_wp2_with fail
      go_roundw
      case rel => exact ⟨k + 1, by omega, by go_num, HB2.out⟩
      case measure => simp [intOf]; omega
    · obtain rfl : k = ls.length := by omega
      go_wp2_with fail
      go_ret
      exact ⟨rfl, HBW.out⟩
end Go.Proofs.Ytkjmpenaifhfjaa
