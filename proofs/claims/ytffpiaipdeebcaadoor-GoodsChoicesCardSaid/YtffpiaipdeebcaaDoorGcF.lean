/- goods.Check of any instance: where it may not be. -/
import Derived.Test.YtffpiaipdeebcaaDoorGCheck
namespace Go.Proofs.YtffpiaipdeebcaaDoor
open Go.RowKit

def firstBad (al : Nat) : Nat → List (List Offer) → Int × Int × Int
  | _, [] => (0, 0, 0)
  | b, l :: ls => if 8 < l.length then ((b : Int), 8, 2) else if 0 ≤ idxTo (badO al) l then ((b : Int), idxTo (badO al) l, 2) else firstBad al (b + 1) ls
/-- Whether an instance may be, or where not. -/
def checkT (n : Int) (ls : List (List Offer)) : Int × Int × Int := if n < 1 ∨ 10 < n then (0, 0, 2) else if 32 < ls.length then (32, 0, 2) else firstBad (allI n) 0 ls
theorem firstBad_ok {al : Nat} : ∀ {ls : List (List Offer)} {b : Nat}, ((firstBad al b ls).2.2 = 2 ∨ firstBad al b ls = (0, 0, 0)) ∧ ((firstBad al b ls).2.2 = 0 ↔ ∀ l ∈ ls, l.length ≤ 8 ∧ ∀ o ∈ l, badO al o = false)
  | [], b => by simp [firstBad]
  | l :: ls, b => by
    rw [firstBad]
    by_cases h : 8 < l.length
    · rw [if_pos h]
      refine ⟨.inl rfl, by simp; intro h2; omega⟩
    · rw [if_neg h]
      by_cases h2 : 0 ≤ idxTo (badO al) l
      · rw [if_pos h2]
        refine ⟨.inl rfl, ?_⟩
        simp only [Int.reduceEq, false_iff]
        intro h3
        exact absurd h2 (idxTo_neg.2 (h3 l (List.mem_cons_self ..)).2)
      · rw [if_neg h2]
        obtain ⟨h3, h4⟩ := firstBad_ok (al := al) (ls := ls) (b := b + 1)
        refine ⟨h3, h4.trans ?_⟩
        constructor
        · intro h5 m hm
          rcases List.mem_cons.1 hm with rfl | hm
          · exact ⟨by omega, idxTo_neg.1 h2⟩
          · exact h5 m hm
        · exact fun h5 m hm => h5 m (List.mem_cons_of_mem _ hm)
theorem checkT_cases (n : Int) (ls : List (List Offer)) : (checkT n ls).2.2 = 2 ∨ checkT n ls = (0, 0, 0) := by
  unfold checkT
  split
  · exact .inl rfl
  · split
    · exact .inl rfl
    · exact (firstBad_ok).1
theorem checkT_ok {n : Int} {ls : List (List Offer)} : (checkT n ls).2.2 = 0 ↔ instE n ls = 0 := by
  rw [instE_ok]
  unfold checkT
  by_cases h : n < 1 ∨ 10 < n
  · rw [if_pos h]; simp [h]
  · rw [if_neg h]
    have e : allI n = allG n.toNat := by unfold allI; rw [if_neg (by omega)]
    by_cases h2 : 32 < ls.length
    · rw [if_pos h2]; simp; intro _ h3; omega
    · rw [if_neg h2, firstBad_ok.2, e]
      exact ⟨fun h3 => ⟨h, by omega, h3⟩, fun h3 => h3.2.2⟩
abbrev checkV (n : Int) (ls : List (List Offer)) : Value := .tuple #[.int .i64 (checkT n ls).1, .int .i64 (checkT n ls).2.1, .int .i64 (checkT n ls).2.2]
set_option maxRecDepth 100000 in
set_option maxHeartbeats 2000000 in
theorem gcheck_any (n : Int) (A : Option Addr) (c : Nat) (hs : List Hdr) (ls : List (List Offer)) (w : World) (h : Buys w w.heap.size A hs ls) (hw : BWide ls) :
    Calls Tryd.prog 34 #[instV n A ls.length c] w (ValPost (checkV n ls) w) := by
  have HAL := hide (fun W => all_any n W)
  have hlt := allI_lt n
  unfold AllPost at HAL
  have HA := hide h
  have HW := hide hw
  have HCT : Hid (checkT n ls = if n < 1 ∨ 10 < n then (0, 0, 2) else if 32 < ls.length then (32, 0, 2) else firstBad (allI n) 0 ls) := hide rfl
  obtain ⟨al, hal⟩ : ∃ al, allI n = al := ⟨_, rfl⟩
  obtain ⟨r, hr⟩ : ∃ r, checkT n ls = r := ⟨_, rfl⟩
  unfold checkV
  rw [hal] at HAL hlt HCT
  rw [hr] at HCT ⊢
  have HGI := hide (fun (A' : Option Addr) (c' : Nat) (l : List Offer) (g : Nat) (W : World) (h4 : W.cell? ⟨g, 0, none⟩ = some (.int .u32 (al : Int))) (h5 : g < W.heap.size) (h6 : Offs W W.heap.size A' l) (h7 : l.length ≤ 1000000) (h8 : OWide l) => gindexBad al g A' c' l W hlt h4 h5 h6 h7 h8)
  have HB : Hid (Below w.heap.size w ((w.alloc (.cells #[.int .i64 n, .slice A ls.length c] 49)).alloc (.cells #[.int .u32 (al : Int)] 25))) := hide (((Below.refl _ _).alloc (Nat.le_refl _) _).alloc (by simp) _)
  have HX : Hid (((w.alloc (.cells #[.int .i64 n, .slice A ls.length c] 49)).alloc (.cells #[.int .u32 (al : Int)] 25)).heap[w.heap.size]? = some (.cells #[.int .i64 n, .slice A ls.length c] 49 (0, 0)) ∧ ((w.alloc (.cells #[.int .i64 n, .slice A ls.length c] 49)).alloc (.cells #[.int .u32 (al : Int)] 25)).heap[w.heap.size + 1]? = some (.cells #[.int .u32 (al : Int)] 25 (0, 0))) := hide ⟨by
    rw [Below.heap_alloc _ _ _ (by simp)]; exact heap_alloc_new w _, by
    have := heap_alloc_new (w.alloc (.cells #[.int .i64 n, .slice A ls.length c] 49)) (.cells #[.int .u32 (al : Int)] 25)
    simpa using this⟩
  have HAE : Hid (allE n = if n < 0 ∨ 32 < n then 2 else 0) := hide rfl
  obtain ⟨ae, hae⟩ : ∃ ae, allE n = ae := ⟨_, rfl⟩
  rw [hae] at HAL HAE
  clear h hw hal hlt hae hr
  simp only [instV]
  go_enter Tryd.func34, Tryd.ntmps34
  go_upto_region 2 with (go_at_call 11; refine (HAL.out _).mono ?_; rintro e _ ⟨rfl, rfl⟩)
  generalize (w.alloc (.cells #[.int .i64 n, .slice A ls.length c] 49)).alloc (.cells #[.int .u32 (al : Int)] 25) = w1 at *
  have x0 : w1.cell? ⟨w.heap.size, 0, none⟩ = some (.int .i64 n) := cell_of_row w1 w.heap.size 0 _ _ (0, 0) HX.out.1
  have x1 : w1.cell? ⟨w.heap.size, 1, none⟩ = some (.slice A ls.length c) := cell_of_row w1 w.heap.size 1 _ _ (0, 0) HX.out.1
  by_cases h0 : n < 0 ∨ 32 < n
  · obtain rfl : ae = 2 := by rw [HAE.out, if_pos h0]
    have HR : Hid (r = (0, 0, 2)) := hide (by rw [HCT.out, if_pos (by omega)])
    clear h0
    go_wp2_with fail
    refine bodyPost_ret (v := .tuple #[.int .i64 0, .int .i64 0, .int .i64 2]) (by simp [results, Tryd.results34, go_sem]) rfl ?_
    rw [HR.out]
    exact ⟨rfl, HB.out⟩
  · obtain rfl : ae = 0 := by rw [HAE.out, if_neg h0]
    by_cases h1 : n < 1
    · have d1 : decide (n < 1) = true := decide_eq_true h1
      have HR : Hid (r = (0, 0, 2)) := hide (by rw [HCT.out, if_pos (by omega)])
      clear h0 h1
      go_wp2_with fail
      refine bodyPost_ret (v := .tuple #[.int .i64 0, .int .i64 0, .int .i64 2]) (by simp [results, Tryd.results34, go_sem]) rfl ?_
      rw [HR.out]
      exact ⟨rfl, HB.out⟩
    · have d1 : decide (n < 1) = false := decide_eq_false h1
      by_cases h2 : 10 < n
      · have d2 : decide (10 < n) = true := decide_eq_true h2
        have HR : Hid (r = (0, 0, 2)) := hide (by rw [HCT.out, if_pos (by omega)])
        clear h0 h1 h2
        go_wp2_with fail
        refine bodyPost_ret (v := .tuple #[.int .i64 0, .int .i64 0, .int .i64 2]) (by simp [results, Tryd.results34, go_sem]) rfl ?_
        rw [HR.out]
        exact ⟨rfl, HB.out⟩
      · have d2 : decide (10 < n) = false := decide_eq_false h2
        by_cases h3 : 32 < ls.length
        · have d3 : decide ((32 : Int) < (ls.length : Int)) = true := decide_eq_true (by omega)
          have HR : Hid (r = (32, 0, 2)) := hide (by rw [HCT.out, if_neg (by omega), if_pos h3])
          clear h0 h1 h2 h3
          go_wp2_with fail
          refine bodyPost_ret (v := .tuple #[.int .i64 32, .int .i64 0, .int .i64 2]) (by simp [results, Tryd.results34, go_sem]) rfl ?_
          rw [HR.out]
          exact ⟨rfl, HB.out⟩
        · have d3 : decide ((32 : Int) < (ls.length : Int)) = false := decide_eq_false (by omega)
          have HR : Hid (r = firstBad al 0 ls) := hide (by rw [HCT.out, if_neg (by omega), if_neg h3])
          have hl32 : ls.length ≤ 32 := by omega
          clear h0 h1 h2 h3
          go_wp2_with fail
          clear x0 x1 d1 d2 d3
          go_loopw [38] (fun iv wr => ∃ k : Nat, k ≤ ls.length ∧ iv = .int .i64 k ∧ r = firstBad al k (ls.drop k) ∧ Below w1.heap.size w1 wr) (fun iv _ => ls.length - (intOf iv).toNat)
          case atStart => exact ⟨0, Nat.zero_le _, rfl, HR.out, Below.refl _ _⟩
          case round =>
            obtain ⟨k, hk, rfl, hre, hb⟩ := hrel
            have HRE := hide hre
            have HBR := hide hb
            have HBW : Hid (Below w.heap.size w wr) := hide (HB.out.trans (hb.mono HB.out.size))
            clear hb hre HR
            by_cases hlt : k < ls.length
            · obtain ⟨⟨a1, a2⟩, l, ha, hlx, hro, hca⟩ := HA.out.get hlt
              obtain ⟨bb, bo, rfl, hbB, hat⟩ := HA.out.at_ (by omega)
              have z1 : wr.cell? ⟨bb, bo + k, none⟩ = some (.slice a1 l.length a2) := (HBW.out.cell (p := ⟨bb, bo + k, none⟩) hbB).trans (hat k _ l ha hlx)
              have hmem := List.mem_of_getElem? hlx
              have hki : (k : Int) < (ls.length : Int) := by omega
              have HDR : Hid (r = if 8 < l.length then ((k : Int), 8, 2) else if 0 ≤ idxTo (badO al) l then ((k : Int), idxTo (badO al) l, 2) else firstBad al (k + 1) (ls.drop (k + 1))) := hide (by
                rw [HRE.out, List.drop_eq_getElem_cons hlt, show ls[k] = l from (List.getElem?_eq_some_iff.1 hlx).2, firstBad])
              have hx1 := (HBR.out.block _ (lt_of_block HX.out.2)).trans HX.out.2
              by_cases h8 : 8 < l.length
              · have d8 : decide ((8 : Int) < (l.length : Int)) = true := decide_eq_true (by omega)
                have HR : Hid (r = ((k : Int), 8, 2)) := hide (by rw [HDR.out, if_pos h8])
                clear hat ha hlx hro hca hmem hx1 h8
                go_wp2_with fail
                refine bodyPost_ret (v := .tuple #[.int .i64 k, .int .i64 8, .int .i64 2]) (by simp [results, Tryd.results34, go_sem]) rfl ?_
                rw [HR.out]
                exact ⟨rfl, HBW.out⟩
              · have d8 : decide ((8 : Int) < (l.length : Int)) = false := decide_eq_false (by omega)
                have HIN := hide (HGI.out a1 a2 l (w.heap.size + 1) wr (cell_of_row wr (w.heap.size + 1) 0 _ _ (0, 0) hx1) (lt_of_block hx1) (hro.up HBW.out) (by omega) (HW.out l hmem))
                unfold IntPost at HIN
                obtain ⟨ix, hix⟩ : ∃ ix, idxTo (badO al) l = ix := ⟨_, rfl⟩
                rw [hix] at HIN HDR
                have HR8 : Hid (r = if 0 ≤ ix then ((k : Int), ix, 2) else firstBad al (k + 1) (ls.drop (k + 1))) := hide (by rw [HDR.out, if_neg h8])
                clear hat ha hlx hro hca hmem hx1 h8 hix HDR
                by_cases hix : 0 ≤ ix
                · have dx : decide ((0 : Int) ≤ ix) = true := decide_eq_true hix
                  have HR : Hid (r = ((k : Int), ix, 2)) := hide (by rw [HR8.out, if_pos hix])
                  clear hix
                  go_wp2_with (go_at_call 53; refine (HIN.out).mono ?_; rintro e w2 ⟨rfl, hb2⟩)
                  refine bodyPost_ret (v := .tuple #[.int .i64 k, .int .i64 ix, .int .i64 2]) (by simp [results, Tryd.results34, go_sem]) rfl ?_
                  rw [HR.out]
                  exact ⟨rfl, HBW.out.trans (hb2.mono HBW.out.size)⟩
                · have dx : decide ((0 : Int) ≤ ix) = false := decide_eq_false hix
                  have HR : Hid (r = firstBad al (k + 1) (ls.drop (k + 1))) := hide (by rw [HR8.out, if_neg hix])
                  clear hix
                  go_wp2_with (go_at_call 53; refine (HIN.out).mono ?_; rintro e w2 ⟨rfl, hb2⟩)
                  go_roundw
                  case rel => exact ⟨k + 1, by omega, by go_num, HR.out, HBR.out.trans (hb2.mono HBR.out.size)⟩
                  case measure => simp [intOf]; omega
            · obtain rfl : k = ls.length := by omega
              have HR : Hid (r = (0, 0, 0)) := hide (by rw [HRE.out, List.drop_length]; rfl)
              go_wp2_with fail
              refine bodyPost_ret (v := .tuple #[.int .i64 0, .int .i64 0, .int .i64 0]) (by simp [results, Tryd.results34, go_sem]) rfl ?_
              rw [HR.out]
              exact ⟨rfl, HBW.out⟩
end Go.Proofs.YtffpiaipdeebcaaDoor
