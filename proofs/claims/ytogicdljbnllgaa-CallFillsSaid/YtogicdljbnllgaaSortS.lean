/- The walk of call.sorted: a side, its places in order. -/
import Derived.Test.YtogicdljbnllgaaSorted
namespace Go.Proofs.Ytogicdljbnllgaa
open Go.Shelf Go.RowKit Go.Lib Go.Sort Go.Proofs

theorem infoI : EI Try.prog 3 (.int .i64 0) 1 8 := by unfold EI; kernel_rfl
theorem rangeI_snoc (k : Nat) : rangeI (k + 1) = rangeI k ++ [(k : Int)] := by
  unfold rangeI
  rw [List.range_succ, List.map_append]
  rfl
/-- A side's places in order. -/
def ordK (κ : Int × Int → Int) (l : List (Int × Int)) : List Int := sortedI (cfK κ l) l.length
theorem ordK_len (κ : Int × Int → Int) (l : List (Int × Int)) : (ordK κ l).length = l.length := by unfold ordK sortedI; rw [List.length_mergeSort]; exact rangeI_len _
/-- What sorted's own variables hold. -/
structure SdF (w : World) (A : Option Addr) (c : Nat) (l : List (Int × Int)) (gf : Nat) (cb : Array Value) (k : Nat) (v : Value) (wr : World) : Prop where
  bel : Below w.heap.size w wr
  b0 : wr.heap[w.heap.size]? = some (.cells #[.slice A l.length c] 22 (0, 0))
  b1 : wr.heap[w.heap.size + 1]? = some (.cells #[.func (.func gf) #[] cb] 91 (0, 0))
  b2 : wr.heap[w.heap.size + 1 + 1]? = some (.cells #[.slice none 0 0, .slice none 0 0] 82 (0, 0))
  b3 : wr.heap[w.heap.size + 1 + 1 + 1]? = some (.cells #[.slice A l.length c, v] 82 (0, 0))
  row : wr.ownsRow w.heap.size 3 1 v k ((rangeI k).map (Value.int .i64))
section
variable {w wr w2 : World} {A : Option Addr} {c : Nat} {l : List (Int × Int)} {gf : Nat} {cb : Array Value} {k : Nat} {v v' : Value}
theorem SdF.push (h : SdF w A c l gf cb k v wr) (hown : w2.ownsRow w.heap.size 3 1 v' (k + 1) ((rangeI k).map (Value.int .i64) ++ [.int .i64 (k : Int)])) (hg : wr.grownBy w2 v.ownBlock) : SdF w A c l gf cb (k + 1) v' (w2.setCell ⟨w.heap.size + 1 + 1 + 1, 1, none⟩ v') := by
  have hrow := fun j hj => h.row.lt j hj
  have ne : ∀ {b : Nat} {cs : Array Value} {t : TypeId}, wr.heap[b]? = some (Obj.cells cs t (0, 0)) → t ≠ 3 → w2.heap[b]? = some (Obj.cells cs t (0, 0)) := fun hb ht => (hg.block _ (lt_of_block hb) (fun e => own_ne h.row hb (fun cur e' => by injection e' with _ e' _; exact ht e') e.symm)).trans hb
  have h3 := ne h.b3 (by decide)
  have far : ∀ {b : Nat}, b ≠ w.heap.size + 1 + 1 + 1 → (w2.setCell ⟨w.heap.size + 1 + 1 + 1, 1, none⟩ v').heap[b]? = w2.heap[b]? := fun hb => Below.heap_setCell w2 _ _ _ hb
  refine ⟨(h.bel.grown hg h.bel.size (fun j hj => (hrow j hj).1)).setCell (by show w.heap.size ≤ w.heap.size + 1 + 1 + 1; omega) _, (far (by omega)).trans (ne h.b0 (by decide)), (far (by omega)).trans (ne h.b1 (by decide)), (far (by omega)).trans (ne h.b2 (by decide)), setCell_block h3 1 v', ?_⟩
  rw [rangeI_snoc, List.map_append]
  exact ownsRow_setCell_other hown (fun e => own_ne hown h3 (fun cur e' => by injection e' with _ e' _; exact absurd e' (by decide)) e) _
end
theorem SdF.start (w : World) (A : Option Addr) (c : Nat) (l : List (Int × Int)) (gf : Nat) (cb : Array Value) : SdF w A c l gf cb 0 (.slice none 0 0) ((((w.alloc (.cells #[.slice A l.length c] 22)).alloc (.cells #[.func (.func gf) #[] cb] 91)).alloc (.cells #[.slice none 0 0, .slice none 0 0] 82)).alloc (.cells #[.slice A l.length c, .slice none 0 0] 82)) := by
  refine ⟨((((Below.refl _ _).alloc (Nat.le_refl _) _).alloc (by simp) _).alloc (by simp; omega) _).alloc (by simp; omega) _, ?_, ?_, ?_, ?_, World.ownsRow_nil _ _ _ _⟩
  · rw [Below.heap_alloc _ _ _ (by simp; omega), Below.heap_alloc _ _ _ (by simp; omega), Below.heap_alloc _ _ _ (by simp)]
    exact heap_alloc_new w _
  · rw [Below.heap_alloc _ _ _ (by simp <;> omega), Below.heap_alloc _ _ _ (by simp)]
    have := heap_alloc_new (w.alloc (.cells #[.slice A l.length c] 22)) (.cells #[.func (.func gf) #[] cb] 91)
    simpa using this
  · rw [Below.heap_alloc _ _ _ (by simp)]
    have := heap_alloc_new ((w.alloc (.cells #[.slice A l.length c] 22)).alloc (.cells #[.func (.func gf) #[] cb] 91)) (.cells #[.slice none 0 0, .slice none 0 0] 82)
    simpa using this
  · have := heap_alloc_new (((w.alloc (.cells #[.slice A l.length c] 22)).alloc (.cells #[.func (.func gf) #[] cb] 91)).alloc (.cells #[.slice none 0 0, .slice none 0 0] 82)) (.cells #[.slice A l.length c, .slice none 0 0] 82)
    simpa using this
theorem SdF.cells {w wr : World} {A : Option Addr} {c : Nat} {l : List (Int × Int)} {gf : Nat} {cb : Array Value} {k : Nat} {v : Value} (h : SdF w A c l gf cb k v wr) : wr.cell? ⟨w.heap.size, 0, none⟩ = some (.slice A l.length c) ∧ wr.cell? ⟨w.heap.size + 1, 0, none⟩ = some (.func (.func gf) #[] cb) ∧ wr.cell? ⟨w.heap.size + 1 + 1 + 1, 0, none⟩ = some (.slice A l.length c) ∧ wr.cell? ⟨w.heap.size + 1 + 1 + 1, 1, none⟩ = some v ∧ wr.frozen? ⟨w.heap.size + 1 + 1 + 1, 1, none⟩ = false :=
  ⟨cell_of_row wr _ 0 _ _ (0, 0) h.b0, cell_of_row wr _ 0 _ _ (0, 0) h.b1, cell_of_row wr _ 0 _ _ (0, 0) h.b3, cell_of_row wr _ 1 _ _ (0, 0) h.b3, frozen_of_row wr _ 1 _ _ h.b3⟩
def SideP (κ : Int × Int → Int) (A : Option Addr) (c : Nat) (l : List (Int × Int)) (w : World) (e : Ending) (w' : World) : Prop :=
  ∃ v, e = .returned (.agg #[.slice A l.length c, v]) ∧ w'.ownsRow w.heap.size 3 1 v l.length ((ordK κ l).map (Value.int .i64)) ∧ Below w.heap.size w w'

set_option maxRecDepth 100000 in
set_option maxHeartbeats 4000000 in
theorem sorted_any (κ : Int × Int → Int) (gf : Nat) (cb : Array Value) (A : Option Addr) (c : Nat) (l : List (Int × Int)) (w : World) (h : Wants w w.heap.size A l) (hl : l.length ≤ 1000000) (eg : ∀ args w, (callFunc gf args).run Try.prog w = .ok (.enter gf args) w)
    (hfirst : ∀ X, Below w.heap.size w X → ∀ x y : Int × Int, Calls Try.prog gf (#[wantV x, wantV y] ++ cb) X (GroPost (.int .i64 (sgnI (κ x) (κ y))) X)) :
    Calls Try.prog 46 #[.slice A l.length c, .func (.func gf) #[] cb] w (SideP κ A c l w) := by
  have hat := h.at_
  have HAT := hide hat
  have HFI := hide hfirst
  have hmf : ∀ (fn : Fn) (first cap : Array Value) (w : World), (Instr.makeFunc fn first cap).run Try.prog w = .ok (.func fn first cap) w := fun _ _ _ _ => rfl
  have HEG := hide eg
  clear hat h hfirst eg
  go_enter Try.func46, Try.ntmps46
  go_upto_region 2 with fail
  have HS0 := hide (SdF.start w A c l gf cb)
  generalize (((w.alloc (.cells #[.slice A l.length c] 22)).alloc (.cells #[.func (.func gf) #[] cb] 91)).alloc (.cells #[.slice none 0 0, .slice none 0 0] 82)).alloc (.cells #[.slice A l.length c, .slice none 0 0] 82) = w1 at *
  obtain ⟨c0, _, _, _, _⟩ := HS0.out.cells
  go_wp2_with fail
  clear c0
  go_loopw [11] (fun i wr => ∃ (k : Nat) (v : Value), k ≤ l.length ∧ i = .int .i64 k ∧ SdF w A c l gf cb k v wr) (fun i _ => l.length - (intOf i).toNat)
  case atStart => exact ⟨0, _, Nat.zero_le _, rfl, HS0.out⟩
  case round =>
    obtain ⟨k, v, hk, rfl, hsd⟩ := hrel
    have HS := hide hsd
    obtain ⟨c0, c1, c2, c3, f3⟩ := hsd.cells
    obtain ⟨A3, k3, rfl, _⟩ := own_sh hsd.row
    have HO := hide hsd.row
    have G4 := hide hsd.bel.size
    clear hsd
    by_cases hlt : k < l.length
    · have G1 : Hid (∀ u ∈ [Value.int .i64 (k : Int)], u.oneCell' = true) := hide (by intro u hu; simp at hu; subst hu; rfl)
      have G2 : Hid (k + 1 ≤ maxLen) := hide (by unfold maxLen; omega)
      have G3 : Hid ((k + 1) * 8 ≤ 140737488355328) := hide (by omega)
      have hki : (k : Int) < (l.length : Int) := by omega
      go_wp2_with (at_builtin; refine wpList_app rfl (.tmp 15) (.tmp 17) 26 rfl w.heap.size (.int .i64 0) 1 8 infoI Try.underlying26 rfl (by decide) _ _ _ rfl HO.out 1 1 rfl rfl G1.out G2.out G3.out G4.out ?_; intro v' w2 hown hg _ _; obtain ⟨A2, k2, hv2, _⟩ := own_sh hown; subst hv2; have HO2 := hide hown; have HG2 := hide hg; have h3 := (hg.block _ (lt_of_block HS.out.b3) (fun e => own_ne HO.out HS.out.b3 (fun cur e' => by injection e' with _ e' _; exact absurd e' (by decide)) e.symm)).trans HS.out.b3; have d3 := cell_of_row w2 (w.heap.size + 1 + 1 + 1) 1 _ _ (0, 0) h3; have g3 := frozen_of_row w2 (w.heap.size + 1 + 1 + 1) 1 _ _ h3; simp at d3; clear hown hg h3)
      go_roundw
      case rel => exact ⟨k + 1, _, by omega, by go_num, HS.out.push HO2.out HG2.out⟩
      case measure => simp [intOf]; omega
    · obtain rfl : k = l.length := by omega
      have HB := hide HS.out.bel
      have HZ := hide (ordK_len κ l)
      rcases HO.out.2 with ⟨h0v, h0⟩ | ⟨g, cap, cur, h0v, hgb, hgh, _⟩
      · have hl0 : l = [] := List.eq_nil_of_length_eq_zero h0
        subst hl0
        simp only [List.length_nil] at *
        injection h0v with h1 _ h2
        subst h1 h2
        have HN := hide (sort_none 51 #[.pointer (some ⟨w.heap.size + 1, 0, none⟩), .pointer (some ⟨w.heap.size, 0, none⟩)] wr)
        go_wp2_with fail
        refine (HN.out).mono ?_
        rintro e _ ⟨rfl, rfl⟩
        have HB2 := hide HS.out.b2
        have HB3 := hide HS.out.b3
        clear c0 c1 c2 c3 f3
        have y0 := cell_of_row wr (w.heap.size + 1 + 1) 0 _ _ (0, 0) HB2.out
        have y1 := cell_of_row wr (w.heap.size + 1 + 1) 1 _ _ (0, 0) HB2.out
        have y2 : ∀ i, wr.frozen? ⟨w.heap.size + 1 + 1, i, none⟩ = false := fun i => frozen_of_row wr (w.heap.size + 1 + 1) i _ _ HB2.out
        have z0 := cell_of_row wr (w.heap.size + 1 + 1 + 1) 0 _ _ (0, 0) HB3.out
        have z1 := cell_of_row wr (w.heap.size + 1 + 1 + 1) 1 _ _ (0, 0) HB3.out
        simp only [List.getElem?_toArray, List.getElem?_cons_zero, List.getElem?_cons_succ] at y0 y1 z0 z1
        go_wp2_with fail
        refine bodyPost_ret (v := .agg #[.slice A 0 c, .slice none 0 0]) (by simp [results, Try.results46, go_sem, y0, y1]) rfl ?_
        have h5 : ordK κ [] = [] := List.eq_nil_of_length_eq_zero HZ.out
        refine ⟨.slice none 0 0, rfl, by rw [h5]; exact World.ownsRow_nil _ _ _ _, ?_⟩
        repeat (refine Below.setCell ?_ (by show w.heap.size ≤ w.heap.size + 1 + 1; omega) _)
        exact HB.out
      · injection h0v with h1 _ h2
        subst h1 h2
        have np := fun {b : Nat} {cs : Array Value} {t : TypeId} (hb : wr.heap[b]? = some (Obj.cells cs t (0, 0))) (ht : t ≠ 3) => own_ne HO.out hb (fun cur e' => by injection e' with _ e' _; exact ht e')
        have n0 : w.heap.size ≠ g := fun e => np HS.out.b0 (by decide) (by rw [e]; rfl)
        have n1 : w.heap.size + 1 ≠ g := fun e => np HS.out.b1 (by decide) (by rw [e]; rfl)
        have n2 : w.heap.size + 1 + 1 ≠ g := fun e => np HS.out.b2 (by decide) (by rw [e]; rfl)
        have n3 : w.heap.size + 1 + 1 + 1 ≠ g := fun e => np HS.out.b3 (by decide) (by rw [e]; rfl)
        have hcm : CmpV (fun x => 0 ≤ x ∧ x < (l.length : Int)) 51 #[.pointer (some ⟨w.heap.size + 1, 0, none⟩), .pointer (some ⟨w.heap.size, 0, none⟩)] (cfK κ l) g 0 l.length wr := by
          intro m os dk hs x y hx hy
          obtain ⟨i, rfl⟩ : ∃ i : Nat, x = i := ⟨x.toNat, by omega⟩
          obtain ⟨j, rfl⟩ : ∃ i : Nat, y = i := ⟨y.toNat, by omega⟩
          have hi : i < l.length := by omega
          have hj : j < l.length := by omega
          obtain ⟨b, o, rfl, hbB, hcl⟩ := HAT.out (by omega)
          have hX : Below w.heap.size w (sortWorld (Value.int .i64) wr g 0 m dk os) := HB.out.grown (grown_putI dk) HB.out.size (fun j hj => by injection hj with hj; omega)
          have key : ∀ (k : Nat) (x : Int × Int), l[k]? = some x → (sortWorld (Value.int .i64) wr g 0 m dk os).cell? ⟨b, o + k * 2, none⟩ = some (.int .i64 x.1) ∧ (sortWorld (Value.int .i64) wr g 0 m dk os).cell? ⟨b, o + k * 2 + 1, none⟩ = some (.int .i64 x.2) := fun k x hkx => ⟨(hX.cell (p := ⟨b, o + k * 2, none⟩) hbB).trans (hcl k x hkx).1, (hX.cell (p := ⟨b, o + k * 2 + 1, none⟩) hbB).trans (hcl k x hkx).2⟩
          refine (place_any κ gf cb (w.heap.size + 1) w.heap.size l b o c i j _ hi hj hl HEG.out ?_ ?_ key ?_).mono ?_
          · rw [cell_putI n1 (lt_of_block HS.out.b1)]
            exact cell_of_row wr _ 0 _ _ (0, 0) HS.out.b1
          · rw [cell_putI n0 (lt_of_block HS.out.b0)]
            exact cell_of_row wr _ 0 _ _ (0, 0) HS.out.b0
          · exact fun Y hY => HFI.out Y (hX.trans (hY.below.mono hX.size))
          · rintro e w' ⟨he, hg⟩
            exact ⟨he, hg⟩
        have HSO := hide (sortI_any (swoK κ l) (enters_of Try.func51 (by kernel_rfl) rfl) hcm HO.out hl)
        have HGB : Hid (w.heap.size ≤ g) := hide hgb
        have HN : Hid (w.heap.size + 1 + 1 ≠ g ∧ w.heap.size + 1 + 1 + 1 ≠ g) := hide ⟨n2, n3⟩
        clear np n0 n1 n2 n3 hgh hgb hcm
        go_wp2_with fail
        refine (HSO.out).mono ?_
        rintro e w2 ⟨rfl, hz, hown2, hg2⟩
        have HO2 := hide hown2
        have HG2 := hide hg2
        have HB2 := hide ((hg2.block _ (lt_of_block HS.out.b2) (fun e => HN.out.1 (by injection e))).trans HS.out.b2)
        have HB3 := hide ((hg2.block _ (lt_of_block HS.out.b3) (fun e => HN.out.2 (by injection e))).trans HS.out.b3)
        clear hown2 hg2 hz c0 c1 c2 c3 f3
        have y0 := cell_of_row w2 (w.heap.size + 1 + 1) 0 _ _ (0, 0) HB2.out
        have y1 := cell_of_row w2 (w.heap.size + 1 + 1) 1 _ _ (0, 0) HB2.out
        have y2 : ∀ i, w2.frozen? ⟨w.heap.size + 1 + 1, i, none⟩ = false := fun i => frozen_of_row w2 (w.heap.size + 1 + 1) i _ _ HB2.out
        have z0 := cell_of_row w2 (w.heap.size + 1 + 1 + 1) 0 _ _ (0, 0) HB3.out
        have z1 := cell_of_row w2 (w.heap.size + 1 + 1 + 1) 1 _ _ (0, 0) HB3.out
        simp only [List.getElem?_toArray, List.getElem?_cons_zero, List.getElem?_cons_succ] at y0 y1 z0 z1
        go_wp2_with fail
        refine bodyPost_ret (v := .agg #[.slice A l.length c, .slice (some ⟨g, 0, none⟩) l.length k3]) (by simp [results, Try.results46, go_sem, y0, y1]) rfl ?_
        have hf : ∀ {W : World} {i : Nat} {u : Value} {xs : List Value} {n : Nat}, W.ownsRow w.heap.size 3 1 (.slice (some ⟨g, 0, none⟩) l.length k3) n xs → (W.setCell ⟨w.heap.size + 1 + 1, i, none⟩ u).ownsRow w.heap.size 3 1 (.slice (some ⟨g, 0, none⟩) l.length k3) n xs :=
          fun h => ownsRow_setCell_other h (fun e => by have := HN.out.1; simp only [Value.ownBlock, Option.some.injEq] at e; omega) _
        refine ⟨.slice (some ⟨g, 0, none⟩) l.length k3, rfl, hf (hf HO2.out), ?_⟩
        repeat (refine Below.setCell ?_ (by show w.heap.size ≤ w.heap.size + 1 + 1; omega) _)
        exact HB.out.grown HG2.out HB.out.size (fun j hj => by have := Option.some.inj hj; have := HGB.out; omega)
end Go.Proofs.Ytogicdljbnllgaa
