/- The walks of the document's All, Each, Within, Apart, Next. -/
import Derived.Test.YtffpiaipdeebcaaDoorGd1
namespace Go.Proofs.YtffpiaipdeebcaaDoor
open Go.RowKit Go.Maps Go.Shelf
open Go.ChangeMaps Go.WideMaps

set_option maxRecDepth 100000 in
set_option maxHeartbeats 2000000 in
theorem refall_any (n : Int) (w : World) : Calls Tryd.prog 12 #[.int .i64 n] w (SamePost (.tuple #[.int .u32 (allI n : Int), .int .i64 (allE n)]) w) := by
  have HAI : Hid (allI n = if n < 0 ∨ 32 < n then 0 else allG n.toNat) := hide rfl
  have HAE : Hid (allE n = if n < 0 ∨ 32 < n then 2 else 0) := hide rfl
  obtain ⟨ai, hai⟩ : ∃ x, allI n = x := ⟨_, rfl⟩
  obtain ⟨ae, hae⟩ : ∃ x, allE n = x := ⟨_, rfl⟩
  rw [hai] at HAI ⊢
  rw [hae] at HAE ⊢
  clear hai hae
  go_enter Tryd.func12, Tryd.ntmps12
  by_cases h1 : n < 0
  · have HE : Hid (ai = 0 ∧ ae = 2) := hide (by rw [HAI.out, HAE.out, if_pos (.inl h1), if_pos (.inl h1)]; exact ⟨rfl, rfl⟩)
    go_wp2
    go_ret2
    exact ⟨by rw [HE.out.1, HE.out.2]; rfl, rfl⟩
  by_cases h2 : 32 < n
  · have HE : Hid (ai = 0 ∧ ae = 2) := hide (by rw [HAI.out, HAE.out, if_pos (.inr h2), if_pos (.inr h2)]; exact ⟨rfl, rfl⟩)
    go_wp2
    go_ret2
    exact ⟨by rw [HE.out.1, HE.out.2]; rfl, rfl⟩
  have HE : Hid (ai = allG n.toNat ∧ ae = 0) := hide (by rw [HAI.out, HAE.out, if_neg (by omega), if_neg (by omega)]; exact ⟨rfl, rfl⟩)
  obtain ⟨m, rfl⟩ := Int.eq_ofNat_of_zero_le (show 0 ≤ n by omega)
  go_upto_region 5 with fail
  go_loopw [4, 5] (fun sv iv wr => ∃ k : Nat, k ≤ m ∧ sv = .int .u32 (allG k : Nat) ∧ iv = .int .i64 k ∧ w = wr) (fun _ iv _ => m - (intOf iv).toNat)
  case atStart => exact ⟨0, Nat.zero_le _, rfl, rfl, by trivial⟩
  case round =>
    obtain ⟨k, hk, rfl, rfl, rfl⟩ := hrel
    by_cases hlt : k < m
    · have hki : (k : Int) < (m : Int) := by omega
      have HBT := hide (refbit_any k (by omega) (by omega) w)
      rw [Int.toNat_natCast] at HBT
      unfold SamePost at HBT
      have HG : Hid (allG (k + 1) = allG k + 2 ^ k) := hide (by unfold allG; rw [Nat.pow_succ]; have := Nat.two_pow_pos k; omega)
      have hlm := allG_lt (k + 1) (by omega)
      obtain ⟨q, hq⟩ : ∃ q : Nat, 2 ^ k = q := ⟨_, rfl⟩
      obtain ⟨s, hs⟩ : ∃ s : Nat, allG k = s := ⟨_, rfl⟩
      rw [hq, hs] at HG
      rw [hq] at HBT
      rw [hs]
      have hsum : IntKind.u32.wrap ((s : Int) + (q : Int)) = ((s + q : Nat) : Int) := by rw [Go.IntWalk.u32_in _ (by rw [HG.out] at hlm; omega)]; omega
      clear hq hs hlm
      go_wp2_with (go_at_call 42; refine (HBT.out).mono ?_; rintro e w1 ⟨rfl, rfl⟩)
      go_roundw
      case rel => exact ⟨k + 1, by omega, by rw [HG.out]; first | rfl | exact congrArg (Value.int .u32) hsum | go_num, by go_num, by trivial⟩
      case measure => simp [intOf]; omega
    · obtain rfl : k = m := by omega
      go_wp2_with fail
      go_ret2
      exact ⟨by rw [HE.out.1, HE.out.2]; rfl, rfl⟩

theorem reads_row7 {W : World} {g : Nat} {xs : List Value} {e : TypeId} {fr : Nat × Nat} {size n : Nat} (h : W.heap[g]? = some (.cells xs.toArray e fr)) (hn : xs.length = n * size) : Reads W W.heap.size size (some ⟨g, 0, none⟩) n xs := by
  refine ⟨hn, fun _ => ⟨g, 0, rfl, lt_of_block h, fun j u hu => ?_⟩⟩
  rw [Nat.zero_add]
  exact (cell_of_row W g j _ _ fr h).trans (by simpa using hu)
/-- A set's goods in a row of the call's own. -/
abbrev natV (i : Nat) : Value := .int .i64 (i : Int)
def eachK (s k : Nat) : List Nat := (List.range' 0 k).filter fun i => s.testBit i
theorem eachK_next (s k : Nat) : eachK s (k + 1) = eachK s k ++ (if s.testBit k then [k] else []) := by
  unfold eachK
  rw [show List.range' 0 (k + 1) = List.range' 0 k ++ [k] by rw [List.range'_concat]; simp, List.filter_append]
  congr 1
  simp [List.filter_cons]
theorem eachK_le (s k : Nat) : (eachK s k).length ≤ k := Nat.le_trans (List.length_filter_le _ _) (by simp)
def EachP (s : Nat) (w : World) (e : Ending) (w' : World) : Prop :=
  ∃ A c, e = .returned (.slice A (eachL s).length c) ∧ One natV w' w'.heap.size A (eachL s) ∧ Below w.heap.size w w'
theorem infoN7 : EI Tryd.prog 3 (.int .i64 0) 1 8 := by unfold EI; kernel_rfl
set_option maxRecDepth 100000 in
set_option maxHeartbeats 4000000 in
theorem refeach_any (s : Nat) (hs : s < 4294967296) (w : World) : Calls Tryd.prog 21 #[.int .u32 (s : Int)] w (EachP s w) := by
  have HHS := hide (fun g W => refhas_any s hs g W)
  unfold SamePost at HHS
  go_enter Tryd.func21, Tryd.ntmps21
  go_upto_region 3 with fail
  go_loopw [3, 4] (fun sv iv wr => ∃ (k : Nat) (A : Option Addr) (c : Nat), k ≤ 32 ∧ sv = .slice A (eachK s k).length c ∧ iv = .int .i64 k ∧ wr.ownsRow w.heap.size 3 1 (.slice A (eachK s k).length c) (eachK s k).length ((eachK s k).map natV) ∧ Below w.heap.size w wr) (fun _ iv _ => 32 - (intOf iv).toNat)
  case atStart => exact ⟨0, none, 0, by omega, rfl, rfl, World.ownsRow_nil _ _ _ _, Below.refl _ _⟩
  case round =>
    obtain ⟨k, A, c, hk, rfl, rfl, ho, hb⟩ := hrel
    have HO := hide ho
    have HB := hide hb
    clear ho hb
    by_cases hlt : k < 32
    · have hki : (k : Int) < 32 := by omega
      have HH := hide (HHS.out k wr)
      have hhb : hasB s k = s.testBit k := by unfold hasB; rw [decide_eq_true (show (0 : Int) ≤ (k : Int) by omega), decide_eq_true hki]; rfl
      rw [hhb] at HH
      have HN := hide (eachK_next s k)
      have hle := eachK_le s k
      clear hhb
      cases hbt : s.testBit k
      · rw [hbt] at HH HN
        have HN2 : Hid (eachK s (k + 1) = eachK s k) := hide (by rw [HN.out]; simp)
        clear hbt
        go_wp2_with (go_at_call 17; refine (HH.out).mono ?_; rintro e w1 ⟨rfl, rfl⟩)
        go_roundw
        case rel => exact ⟨k + 1, A, c, by omega, by rw [HN2.out], by go_num, by rw [HN2.out]; exact HO.out, HB.out⟩
        case measure => simp [intOf]; omega
      · rw [hbt] at HH HN
        have HN2 : Hid (eachK s (k + 1) = eachK s k ++ [k]) := hide (by rw [HN.out]; simp)
        have G1 : Hid (∀ u ∈ [natV k], u.oneCell' = true) := hide (fun u hu => by simp at hu; subst hu; rfl)
        have G2 : Hid ((eachK s k).length + 1 ≤ maxLen) := hide (by unfold maxLen; omega)
        have G3 : Hid (((eachK s k).length + 1) * 8 ≤ 140737488355328) := hide (by omega)
        obtain ⟨L, hL⟩ : ∃ L, eachK s k = L := ⟨_, rfl⟩
        rw [hL] at HO HN2 G2 G3 hle ⊢
        clear hbt hL
        go_wp2_with (first
          | (go_at_call 17; refine (HH.out).mono ?_; rintro e w1 ⟨rfl, rfl⟩)
          | (at_builtin; refine wpList_append_any rfl (.tmp 12) (.tmp 14) 22 rfl w.heap.size 3 _ 1 8 infoN7 Tryd.underlying22 rfl (by decide) _ L.length (L.map natV) rfl (own_below HO.out ((Below.refl _ _).alloc (Nat.le_refl _) _) (Nat.le_refl _)) _ (some ⟨wr.heap.size, 0, none⟩) 1 1 [natV k] rfl (reads_row7 (xs := [natV k]) (heap_alloc_new wr _) rfl) G1.out G2.out G3.out (by have := HB.out.size; simp; omega) ?_; intro v1 w1 hown1 hg1 _; obtain ⟨A1, c1, hv1, _⟩ := own_sh hown1; subst hv1; have HO1 := hide hown1; have HB1 : Hid (Below w.heap.size w w1) := hide ((HB.out.alloc HB.out.size _).grown hg1 (by have := HB.out.size; simp; omega) (fun j hj => (HO.out.lt j hj).1)); clear hown1 hg1))
        go_roundw
        case rel =>
          refine ⟨k + 1, A1, c1, by omega, by rw [HN2.out, List.length_append]; rfl, by go_num, ?_, HB1.out⟩
          rw [HN2.out, List.length_append, List.map_append]
          exact HO1.out
        case measure => simp [intOf]; omega
    · obtain rfl : k = 32 := by omega
      go_wp2_with fail
      go_ret
      exact ⟨A, c, rfl, One.of_own HO.out rfl, HB.out⟩
end Go.Proofs.YtffpiaipdeebcaaDoor
