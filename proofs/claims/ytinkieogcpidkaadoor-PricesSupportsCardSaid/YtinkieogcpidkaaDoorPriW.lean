/- The walks of prices.Descend, Steps. -/
import Derived.Test.YtinkieogcpidkaaDoorPriE
namespace Go.Proofs.YtinkieogcpidkaaDoor
open Go.RowKit Go.Maps Go.Shelf
open Go.ChangeMaps Go.WideMaps

theorem infoI64 : EI Tryd.prog 2 (.int .i64 0) 1 8 := by unfold EI; kernel_rfl
def DescP (n : Int) (ls : List (List Offer)) (w : World) (e : Ending) (w' : World) : Prop :=
  Below w.heap.size w w' ∧ ((instE n ls ≠ 0 ∧ e = .returned (.tuple #[.slice none 0 0, .int .i64 0, .int .i64 (instE n ls)])) ∨
    (instE n ls = 0 ∧ ∃ A c, e = .returned (.tuple #[.slice A n.toNat c, .int .i64 (descD n ls).2, .int .i64 0]) ∧ w'.ownsRow w.heap.size 2 1 (.slice A n.toNat c) n.toNat (((descD n ls).1.take n.toNat).map intV)))
theorem instE_goods {n : Int} {ls : List (List Offer)} (h : instE n ls = 0) : 1 ≤ n ∧ n ≤ 10 := by
  unfold instE at h
  split at h
  · cases h
  · omega
theorem good_len {ls : List (List Offer)} {al : Nat} {step : Int} {st : List Int × Int} {g : Nat} : (goodD ls al step st g).1.length = st.1.length := by
  unfold goodD
  split
  · exact try_len _ _ _ _ _ _
  · rw [try_len, try_len]
theorem pass_len {ls : List (List Offer)} {al : Nat} {step : Int} {st : List Int × Int} : ∀ g, (passD ls al step st g).1.length = st.1.length
  | 0 => rfl
  | g + 1 => by simp only [passD]; rw [good_len, pass_len g]
theorem passes_len {ls : List (List Offer)} {al n : Nat} {step : Int} : ∀ k (st : List Int × Int), (passesD ls al n step k st).1.length = st.1.length
  | 0, _ => rfl
  | k + 1, st => by
    simp only [passesD]
    split
    · exact pass_len _
    · rw [passes_len k, pass_len]
theorem steps_len {ls : List (List Offer)} {al n : Nat} : ∀ f step (st : List Int × Int), (stepsD ls al n f step st).1.length = st.1.length
  | 0, _, _ => rfl
  | f + 1, step, st => by
    simp only [stepsD]
    split
    · rw [steps_len f, passes_len]
    · rfl
theorem desc_len (n : Int) (ls : List (List Offer)) : (descD n ls).1.length = 32 := by unfold descD; rw [steps_len]; rfl

set_option maxRecDepth 100000 in
set_option maxHeartbeats 4000000 in
theorem descend2_any (n : Int) (A : Option Addr) (c : Nat) (hs : List Hdr) (ls : List (List Offer)) (w : World) (hT : TabW w)
    (hB : Buys w w.heap.size A hs ls) (hc : ls.length ≤ c) (hl : ls.length ≤ 1000000) (hls : BLens ls) (hw : BWide ls) :
    Calls Tryd.prog 21 #[instV n A ls.length c] w (DescP n ls w) := by
  have HB0 : Hid (Below w.heap.size w (w.alloc (.cells #[.int .i64 n, .slice A ls.length c] 24))) := hide ((Below.refl _ _).alloc (Nat.le_refl _) _)
  have HX0 : Hid ((w.alloc (.cells #[.int .i64 n, .slice A ls.length c] 24)).heap[w.heap.size]? = some (.cells #[.int .i64 n, .slice A ls.length c] 24 (0, 0))) := hide (heap_alloc_new w _)
  have HI := hide (fun W (hb : Below w.heap.size w W) => inst_any n A c hs ls W (hB.up hb) hl hls hw)
  have HD := hide (fun W (hb : Below w.heap.size w W) (hn : 1 ≤ n ∧ n ≤ 10) => descend_any n hn A c hs ls W (hT.below hb) (hB.up hb) hc hl hls hw)
  obtain ⟨ie, hie⟩ : ∃ ie, instE n ls = ie := ⟨_, rfl⟩
  rw [hie] at HI
  have HIE := hide hie
  clear hB hT hls hw hie
  simp only [instV] at *
  go_enter Tryd.func21, Tryd.ntmps21
  go_upto_region 1 with fail
  generalize w.alloc (.cells #[.int .i64 n, .slice A ls.length c] 24) = w0 at *
  have x0 := cell_of_row _ _ 0 _ _ (0, 0) HX0.out
  have x1 := cell_of_row _ _ 1 _ _ (0, 0) HX0.out
  simp only [List.getElem?_toArray, List.getElem?_cons_zero, List.getElem?_cons_succ] at x0 x1
  have HC := hide (HI.out w0 HB0.out)
  go_upto_region 2 with (go_at_call 42; refine (HC.out).mono ?_; rintro e w1 ⟨rfl, hb1⟩; have HB1 := hide (HB0.out.trans (hb1.mono HB0.out.size)); have HX1 := hide ((hb1.block _ (lt_of_block HX0.out)).trans HX0.out); clear hb1)
  clear x0 x1 HC HB0 HX0 HI
  have x0 := cell_of_row _ _ 0 _ _ (0, 0) HX1.out
  have x1 := cell_of_row _ _ 1 _ _ (0, 0) HX1.out
  simp only [List.getElem?_toArray, List.getElem?_cons_zero, List.getElem?_cons_succ] at x0 x1
  by_cases h0 : ie = 0
  case neg =>
    have hne : (ie != 0) = true := by simpa using h0
    go_wp2_with fail
    refine bodyPost_ret (v := .tuple #[.slice none 0 0, .int .i64 0, .int .i64 ie]) (by simp [results, Tryd.results21, go_sem]) rfl ?_
    exact ⟨HB1.out, .inl ⟨by rw [HIE.out]; exact h0, by rw [HIE.out]⟩⟩
  subst h0
  have hn := instE_goods HIE.out
  have HC := hide (HD.out w1 HB1.out hn)
  have hlen := desc_len n ls
  obtain ⟨⟨p, m⟩, hpm⟩ : ∃ s, descD n ls = s := ⟨_, rfl⟩
  rw [hpm] at HC hlen
  have HPM := hide hpm
  obtain ⟨nn, rfl⟩ := Int.eq_ofNat_of_zero_le (show 0 ≤ n by omega)
  simp only at HC hlen
  clear HD hpm
  go_upto_region 5 with (first
    | (go_at_call 43; refine (HC.out).mono ?_; rintro e w2 ⟨rfl, hb2⟩; have HB2 := hide (HB1.out.trans (hb2.mono HB1.out.size)); have HX2 := hide ((hb2.block _ (lt_of_block HX1.out)).trans HX1.out); clear hb2)
    | (refine wpList_store_row rfl 76 (.tmp 6) (.tmp 16) rfl w2.heap.size (rowC (cntP p)) rfl rfl 76 _ (heap_alloc_new w2 _) (by rw [bInfo, rowC_size]) (by rw [rowC_size]; rfl) (rowC_one _) ?_; rw [zeroC, board_alloc]))
  have HBA : Hid (Below w2.heap.size w2 (w2.alloc (.cells (rowC (cntP p)) 76))) := hide ((Below.refl _ _).alloc (Nat.le_refl _) _)
  have HBO : Hid ((w2.alloc (.cells (rowC (cntP p)) 76)).heap[w2.heap.size]? = some (.cells (rowC (cntP p)) 76 (0, 0))) := hide (heap_alloc_new w2 _)
  have HB3 := hide (HB2.out.trans (HBA.out.mono HB2.out.size))
  have HX3 := hide ((HBA.out.block _ (lt_of_block HX2.out)).trans HX2.out)
  clear x0 x1 HBA HC
  have hb2 : w2.heap.size < (w2.alloc (.cells (rowC (cntP p)) 76)).heap.size := lt_of_block HBO.out
  have HLT := hide hb2
  clear hb2
  generalize w2.alloc (.cells (rowC (cntP p)) 76) = w3 at *
  have x0 := cell_of_row _ _ 0 _ _ (0, 0) HX3.out
  simp only [List.getElem?_toArray, List.getElem?_cons_zero] at x0
  try simp only [Act.put, List.setIfInBounds_toArray, List.set_cons_zero, List.set_cons_succ]
  have HRD : Hid (Reads w3 w3.heap.size 1 (some ⟨w2.heap.size, 0, none⟩) nn ((p.take nn).map intV)) := hide ⟨by rw [List.length_map, List.length_take]; omega, fun _ => ⟨w2.heap.size, 0, rfl, HLT.out, fun j x hx => by
    rw [List.getElem?_map, List.getElem?_take] at hx
    split at hx
    · obtain ⟨y, hy, rfl⟩ := Option.map_eq_some_iff.1 hx
      rw [Nat.zero_add, index_board (cntP p) w3 w2.heap.size (by omega) HBO.out]
      unfold cntP
      rw [List.getD_eq_getElem?_getD, hy]
      rfl
    · cases hx⟩⟩
  have G1 : Hid (∀ u ∈ (p.take nn).map intV, u.oneCell' = true) := hide (fun u hu => by obtain ⟨x, _, rfl⟩ := List.mem_map.1 hu; rfl)
  have G5 : Hid (0 + nn ≤ maxLen) := hide (by unfold maxLen; omega)
  have G6 : Hid ((0 + nn) * 8 ≤ 140737488355328) := hide (by omega)
  have hn32 : (nn : Int) ≤ 32 := by omega
  go_wp2_with (at_builtin; refine wpList_append_any rfl (.const (.slice none 0 0)) (.tmp 20) 29 rfl w.heap.size 2 _ 1 8 infoI64 Tryd.underlying29 rfl (by decide) _ 0 [] rfl (World.ownsRow_nil _ _ _ _) w3.heap.size (some ⟨w2.heap.size, 0, none⟩) nn 32 ((p.take nn).map intV) rfl HRD.out G1.out G5.out G6.out HB3.out.size ?_; intro v1 w4 hown1 hg1 _; have HO4 := hide hown1; have HB4 : Hid (Below w.heap.size w w4) := hide (HB3.out.grown hg1 HB3.out.size (fun j hj => by cases hj)); clear hown1 hg1)
  obtain ⟨A4, c4, hv4, _⟩ := own_sh HO4.out
  subst hv4
  refine bodyPost_ret (v := .tuple #[.slice A4 (0 + nn) c4, .int .i64 m, .int .i64 0]) (by simp [results, Tryd.results21, go_sem]) rfl ?_
  have h5 := HO4.out
  rw [Nat.zero_add, List.nil_append] at h5
  refine ⟨HB4.out, .inr ⟨HIE.out, A4, c4, ?_, ?_⟩⟩
  · rw [HPM.out, Nat.zero_add]
    rfl
  · rw [HPM.out]
    exact h5
end Go.Proofs.YtinkieogcpidkaaDoor
