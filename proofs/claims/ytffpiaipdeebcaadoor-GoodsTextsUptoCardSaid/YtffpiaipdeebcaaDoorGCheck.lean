/- The walks of goods.Check (of an instance that may be), goods.chosen, goods.Worth, offers.Choice. -/
import Derived.Test.YtffpiaipdeebcaaDoorApart7
import Derived.Test.YtffpiaipdeebcaaDoorMore
namespace Go.Proofs.YtffpiaipdeebcaaDoor
open Go.RowKit

set_option maxHeartbeats 1000000 in
theorem gbad_any (all : Nat) (g : Nat) (o : Offer) (w : World) (ho : o.1 < 4294967296) (hall : all < 4294967296) (hc : w.cell? ⟨g, 0, none⟩ = some (.int .u32 (all : Int))) (hg : g < w.heap.size) :
    Calls Tryd.prog 52 #[.agg #[.int .u32 (o.1 : Int), .int .i64 o.2], .pointer (some ⟨g, 0, none⟩)] w (ValPost (.bool (badO all o)) w) := by
  obtain ⟨a, c⟩ := o
  simp only at ho
  have hB : ∀ n, Below w.heap.size w ((w.alloc (.cells #[.int .u32 (a : Int), .int .i64 c] 74)).drewN n) := fun n => below_drewN ((Below.refl _ _).alloc (Nat.le_refl _) _) n
  have hc' : ∀ ob, (w.alloc ob).cell? ⟨g, 0, none⟩ = some (.int .u32 (all : Int)) := fun ob => (World.cell?_alloc_lt w ob ⟨g, 0, none⟩ hg).trans hc
  have HW := hide (fun W => within_any a all ho hall W)
  have h0 : badO all (a, c) = (((a : Int) == 0) || !withinB a all || decide (c < 1) || decide (1099511627776 < c)) := by unfold badO; rw [u32_beq]
  rw [h0]
  clear h0 hc
  generalize withinB a all = wi at *
  by_cases h1 : (a : Int) = 0
  · have h1' : ((a : Int) == 0) = true := by simp [h1]
    rw [h1']
    clear h1
    go_enter Tryd.func52, Tryd.ntmps52
    go_wp2_with (go_at_call 18; refine (HW.out _).mono ?_; rintro e w' ⟨rfl, rfl⟩)
    go_ret
    exact ⟨rfl, hB 0⟩
  · have h1' : ((a : Int) == 0) = false := by simpa using h1
    rw [h1']
    clear h1
    cases wi
    · go_enter Tryd.func52, Tryd.ntmps52
      go_wp2_with (go_at_call 18; refine (HW.out _).mono ?_; rintro e w' ⟨rfl, rfl⟩)
      go_ret
      exact ⟨rfl, hB 0⟩
    · by_cases h2 : c < 1
      · have h2' : decide (c < 1) = true := by simpa using h2
        rw [h2']
        go_enter Tryd.func52, Tryd.ntmps52
        go_wp2_with (go_at_call 18; refine (HW.out _).mono ?_; rintro e w' ⟨rfl, rfl⟩)
        go_ret
        exact ⟨rfl, hB 0⟩
      · have h2' : decide (c < 1) = false := by simpa using h2
        rw [h2']
        go_enter Tryd.func52, Tryd.ntmps52
        go_wp2_with (go_at_call 18; refine (HW.out _).mono ?_; rintro e w' ⟨rfl, rfl⟩)
        go_ret
        exact ⟨rfl, hB 0⟩

set_option maxRecDepth 100000 in
set_option maxHeartbeats 2000000 in
theorem gindexBad (all g : Nat) (A : Option Addr) (c : Nat) (l : List Offer) (w : World) (hall : all < 4294967296) (hc : w.cell? ⟨g, 0, none⟩ = some (.int .u32 (all : Int))) (hg : g < w.heap.size) (h : Offs w w.heap.size A l) (hl : l.length ≤ 1000000) (hw : OWide l) :
    Calls Tryd.prog 53 #[.slice A l.length c, .func (.func 52) #[] #[.pointer (some ⟨g, 0, none⟩)]] w (IntPost (idxTo (badO all) l) w) := by
  have hat := Offs.at_ h
  have HC := hide hc
  have HW := hide hw
  clear hc h hw
  go_enter Tryd.func53, Tryd.ntmps53
  go_wp2_with fail
  go_loopw [8] (fun i wr => ∃ k : Nat, k ≤ l.length ∧ i = .int .i64 k ∧ (∀ j y, j < k → l[j]? = some y → badO all y = false) ∧ Below w.heap.size w wr) (fun i _ => l.length - (intOf i).toNat)
  case atStart => exact ⟨0, Nat.zero_le _, rfl, fun j y hj => absurd hj (by omega), Below.refl _ _⟩
  case round =>
    obtain ⟨k, hk, rfl, hno, hb⟩ := hrel
    have HN := hide hno; clear hno
    by_cases hlt : k < l.length
    · obtain ⟨b, o, rfl, hbB, hcc⟩ := hat (by omega)
      obtain ⟨x, hx⟩ : ∃ x, l[k]? = some x := ⟨l[k], List.getElem?_eq_getElem hlt⟩
      obtain ⟨hc0, hc1⟩ := hcc k x hx
      have d0 := (hb.cell (p := ⟨b, o + k * 2, none⟩) hbB).trans hc0
      have d1 := (hb.cell (p := ⟨b, o + k * 2 + 1, none⟩) hbB).trans hc1
      have hz := hb.size
      have HX := hide hx
      have HB := hide hb
      have hcg := (hb.cell (p := ⟨g, 0, none⟩) hg).trans HC.out
      have hox := (HW.out x (List.mem_of_getElem? hx)).1
      have HCL : Hid (Calls Tryd.prog 52 #[.agg #[.int .u32 (x.1 : Int), .int .i64 x.2], .pointer (some ⟨g, 0, none⟩)] wr (ValPost (.bool (badO all x)) wr)) := hide (gbad_any all g x wr hox hall hcg (by omega))
      clear hc0 hc1 hcc hat hx hb hcg hox
      by_cases hp : badO all x = true
      · rw [hp] at HCL
        have HR := hide (idxTo_hit HX.out hp HN.out)
        clear hp
        go_wp2_with (go_at_call 52; refine (HCL.out).mono ?_; rintro e w' ⟨rfl, hb1⟩)
        go_ret
        refine ⟨by rw [HR.out]; rfl, HB.out.trans (hb1.mono hz)⟩
      · have hp' : badO all x = false := by simpa using hp
        rw [hp'] at HCL
        have HP := hide hp'
        clear hp hp'
        go_wp2_with (go_at_call 52; refine (HCL.out).mono ?_; rintro e w' ⟨rfl, hb1⟩)
        go_roundw
        case rel => exact ⟨k + 1, by omega, by go_num, no_next HN.out HX.out HP.out, HB.out.trans (hb1.mono hz)⟩
        case measure => simp [intOf]; omega
    · have : k = l.length := by omega
      subst this
      have HR := hide (idxTo_miss HN.out)
      go_wp2_with fail
      go_ret
      exact ⟨by rw [HR.out]; rfl, hb⟩

theorem idx_good {n : Int} {ls : List (List Offer)} (h : instE n ls = 0) {l : List Offer} (hl : l ∈ ls) : idxTo (badO (allI n)) l = -1 := by
  rw [instE_ok] at h
  have e : allI n = allG n.toNat := by unfold allI; rw [if_neg (by omega)]
  rw [e]
  exact idxTo_miss (fun j y _ hy => (h.2.2 l hl).2 y (List.mem_of_getElem? hy))

set_option maxRecDepth 100000 in
set_option maxHeartbeats 2000000 in
theorem gcheck_ok (n : Int) (A : Option Addr) (c : Nat) (hs : List Hdr) (ls : List (List Offer)) (w : World) (h : Buys w w.heap.size A hs ls) (hok : instE n ls = 0) (hw : BWide ls) :
    Calls Tryd.prog 34 #[instV n A ls.length c] w (ValPost (.tuple #[.int .i64 0, .int .i64 0, .int .i64 0]) w) := by
  have hI := instE_ok.1 hok
  have HIX := hide (fun l hl => idx_good hok (l := l) hl)
  have HSH := hide (fun l hl => (hI.2.2 l hl).1)
  have h1 : 1 ≤ n := by omega
  have h2 : n ≤ 10 := by omega
  have h3 : (ls.length : Int) ≤ 32 := by have := hI.2.1; omega
  have HAL := hide (fun W => all_any n W)
  have hae : allE n = 0 := by unfold allE; rw [if_neg (by omega)]
  have hlt := allI_lt n
  unfold AllPost at HAL
  rw [hae] at HAL
  have HA := hide h
  have HW := hide hw
  obtain ⟨al, hal⟩ : ∃ al, allI n = al := ⟨_, rfl⟩
  rw [hal] at HAL HIX hlt
  have HGI := hide (fun (A' : Option Addr) (c' : Nat) (l : List Offer) (g : Nat) (W : World) (h4 : W.cell? ⟨g, 0, none⟩ = some (.int .u32 (al : Int))) (h5 : g < W.heap.size) (h6 : Offs W W.heap.size A' l) (h7 : l.length ≤ 1000000) (h8 : OWide l) => gindexBad al g A' c' l W hlt h4 h5 h6 h7 h8)
  have HB : Hid (Below w.heap.size w ((w.alloc (.cells #[.int .i64 n, .slice A ls.length c] 49)).alloc (.cells #[.int .u32 (al : Int)] 25))) := hide (((Below.refl _ _).alloc (Nat.le_refl _) _).alloc (by simp) _)
  have HX : Hid (((w.alloc (.cells #[.int .i64 n, .slice A ls.length c] 49)).alloc (.cells #[.int .u32 (al : Int)] 25)).heap[w.heap.size]? = some (.cells #[.int .i64 n, .slice A ls.length c] 49 (0, 0)) ∧ ((w.alloc (.cells #[.int .i64 n, .slice A ls.length c] 49)).alloc (.cells #[.int .u32 (al : Int)] 25)).heap[w.heap.size + 1]? = some (.cells #[.int .u32 (al : Int)] 25 (0, 0))) := hide ⟨by
    rw [Below.heap_alloc _ _ _ (by simp)]; exact heap_alloc_new w _, by
    have := heap_alloc_new (w.alloc (.cells #[.int .i64 n, .slice A ls.length c] 49)) (.cells #[.int .u32 (al : Int)] 25)
    simpa using this⟩
  clear h hok hw hI hae hal hlt
  simp only [instV]
  go_enter Tryd.func34, Tryd.ntmps34
  go_upto_region 2 with (go_at_call 11; refine (HAL.out _).mono ?_; rintro e _ ⟨rfl, rfl⟩)
  generalize (w.alloc (.cells #[.int .i64 n, .slice A ls.length c] 49)).alloc (.cells #[.int .u32 (al : Int)] 25) = w1 at *
  have x0 : w1.cell? ⟨w.heap.size, 0, none⟩ = some (.int .i64 n) := cell_of_row w1 w.heap.size 0 _ _ (0, 0) HX.out.1
  have x1 : w1.cell? ⟨w.heap.size, 1, none⟩ = some (.slice A ls.length c) := cell_of_row w1 w.heap.size 1 _ _ (0, 0) HX.out.1
  go_wp2_with fail
  clear x0 x1
  go_loopw [38] (fun iv wr => ∃ k : Nat, k ≤ ls.length ∧ iv = .int .i64 k ∧ Below w1.heap.size w1 wr) (fun iv _ => ls.length - (intOf iv).toNat)
  case atStart => exact ⟨0, Nat.zero_le _, rfl, Below.refl _ _⟩
  case round =>
    obtain ⟨k, hk, rfl, hb⟩ := hrel
    have HBR := hide hb
    have HBW : Hid (Below w.heap.size w wr) := hide (HB.out.trans (hb.mono HB.out.size))
    clear hb
    by_cases hlt : k < ls.length
    · obtain ⟨⟨a1, a2⟩, l, ha, hlx, hro, hca⟩ := HA.out.get hlt
      obtain ⟨bb, bo, rfl, hbB, hat⟩ := HA.out.at_ (by omega)
      have z1 : wr.cell? ⟨bb, bo + k, none⟩ = some (.slice a1 l.length a2) := (HBW.out.cell (p := ⟨bb, bo + k, none⟩) hbB).trans (hat k _ l ha hlx)
      have hmem := List.mem_of_getElem? hlx
      have hll : (l.length : Int) ≤ 8 := by have := HSH.out l hmem; omega
      have HIXL := hide (HIX.out l hmem)
      have hx1 := (HBR.out.block _ (lt_of_block HX.out.2)).trans HX.out.2
      have HIN := hide (HGI.out a1 a2 l (w.heap.size + 1) wr (cell_of_row wr (w.heap.size + 1) 0 _ _ (0, 0) hx1) (lt_of_block hx1) (hro.up HBW.out) (by omega) (HW.out l hmem))
      unfold IntPost at HIN
      rw [HIXL.out] at HIN
      clear hat ha hlx hro hca hmem hx1
      go_wp2_with (go_at_call 53; refine (HIN.out).mono ?_; rintro e w2 ⟨rfl, hb2⟩)
      go_roundw
      case rel => exact ⟨k + 1, by omega, by go_num, HBR.out.trans (hb2.mono HBR.out.size)⟩
      case measure => simp [intOf]; omega
    · obtain rfl : k = ls.length := by omega
      go_wp2_with fail
      refine bodyPost_ret (v := .tuple #[.int .i64 0, .int .i64 0, .int .i64 0]) (by simp [results, Tryd.results34, go_sem]) rfl ?_
      exact ⟨rfl, HBW.out⟩
end Go.Proofs.YtffpiaipdeebcaaDoor
