/- The document's lists of dues: Is, without, with. -/
import Derived.Test.YtdaicdaakegdmaaKno
namespace Go.Proofs.Ytdaicdaakegdmaa
open Go.RowKit Go.Maps Go.Shelf
open Go.ChangeMaps Go.WideMaps

set_option maxHeartbeats 1000000 in
theorem docIs_any (t : Int) (w : World) : Calls Try.prog 32 #[.int .i64 t] w (SameP (.bool (isT t)) w) := by
  unfold isT
  by_cases h1 : 0 ≤ t
  · by_cases h2 : t ≤ 1099511627776
    · go_enter Try.func32, Try.ntmps32
      go_wp2
      go_ret
      simp [SameP, h1, h2]
    · go_enter Try.func32, Try.ntmps32
      go_wp2
      go_ret
      simp [SameP, h2]
  · go_enter Try.func32, Try.ntmps32
    go_wp2
    go_ret
    simp [SameP]
    omega

theorem woD_take (l : List Du) (n : Int) (k : Nat) (hk : k < l.length) : woD (l.take (k + 1)) n = if (gD l k).2 ≠ n then woD (l.take k) n ++ [gD l k] else woD (l.take k) n := by
  unfold woD
  rw [List.take_add_one, List.getElem?_eq_getElem hk, List.filter_append, gD_of hk]
  by_cases h : l[k].2 = n
  · rw [if_neg (by simpa using h)]; simp [h]
  · rw [if_pos h]; simp [h]
/-- A list of dues of the document's, in memory. -/
def RowD (B : Nat) (w : World) (v : Value) (l : List Du) : Prop := w.ownsRow B 30 2 v l.length (flatD l)
def WoP (l : List Du) (w : World) (e : Ending) (w' : World) : Prop := ∃ v, e = .returned v ∧ RowD w.heap.size w' v l ∧ Below w.heap.size w w'
theorem woD_len (l : List Du) (n : Int) : (woD l n).length ≤ l.length := by unfold woD; exact List.length_filter_le _ _
set_option maxRecDepth 100000 in
set_option maxHeartbeats 4000000 in
theorem without_any (A : Option Addr) (c : Nat) (l : List Du) (n : Int) (w : World) (h : Reads w w.heap.size 2 A l.length (flatD l)) (hl : l.length ≤ 2000000) :
    Calls Try.prog 47 #[.slice A l.length c, .int .i64 n] w (WoP (woD l n) w) := by
  have hat : ∀ k, k < l.length → ∃ g o, A = some ⟨g, o, none⟩ ∧ g < w.heap.size ∧ w.cell? ⟨g, o + k * 2, none⟩ = some (.int .i64 (gD l k).1) ∧ w.cell? ⟨g, o + k * 2 + 1, none⟩ = some (.int .i64 (gD l k).2) := fun k hk => by
    obtain ⟨g, o, e, hg, hc⟩ := h.2 (by omega)
    have := flatD_at l k hk
    exact ⟨g, o, e, hg, hc _ _ this.1, hc _ _ this.2⟩
  have HAT := hide hat
  clear h hat
  go_enter Try.func47, Try.ntmps47
  go_wp2_with fail
  go_loopw [5, 6] (fun v iv wr => ∃ k : Nat, k ≤ l.length ∧ iv = .int .i64 k ∧ RowD w.heap.size wr v (woD (l.take k) n) ∧ Below w.heap.size w wr) (fun _ iv _ => l.length - (intOf iv).toNat)
  case atStart => exact ⟨0, Nat.zero_le _, rfl, World.ownsRow_nil _ _ _ _, Below.refl _ _⟩
  case round =>
    obtain ⟨k, hk, rfl, hr, hb⟩ := hrel
    obtain ⟨PA, pc, rfl⟩ := own_shape hr
    have HR := hide hr
    have HB := hide hb
    by_cases hlt : k < l.length
    · obtain ⟨g, o, rfl, hg, hc0, hc1⟩ := HAT.out k hlt
      have d0 := (hb.cell (p := ⟨g, o + k * 2, none⟩) hg).trans hc0
      have d1 := (hb.cell (p := ⟨g, o + k * 2 + 1, none⟩) hg).trans hc1
      have hki : (k : Int) < (l.length : Int) := by omega
      have HW := hide (woD_take l n k hlt)
      have HLT := hide hlt
      have HM : Hid ((woD (l.take k) n).length + 1 ≤ 2000001) := hide (by have := woD_len (l.take k) n; simp at this; omega)
      generalize woD (l.take k) n = out at *
      clear hr hb hc0 hc1 hlt
      generalize gD l k = d at *
      obtain ⟨d1', d2'⟩ := d
      simp only at d0 d1
      by_cases he : d2' = n
      · subst he
        have HW2 : Hid (woD (l.take (k + 1)) d2' = out) := hide (by rw [HW.out, if_neg (by simp)])
        go_wp2_with fail
        go_roundw
        case rel => exact ⟨k + 1, HLT.out, by go_num, by rw [HW2.out]; exact HR.out, HB.out⟩
        case measure => simp [intOf]; omega
      · have he' : (d2' == n) = false := by rw [beq_eq_false_iff_ne]; exact he
        have HW2 : Hid (woD (l.take (k + 1)) n = out ++ [(d1', d2')]) := hide (by rw [HW.out, if_pos he])
        have hb1 : Below wr.heap.size wr (wr.alloc (.cells #[.int .i64 d1', .int .i64 d2'] 30)) := (Below.refl _ _).alloc (Nat.le_refl _) _
        have hx1 := heap_alloc_new wr (.cells #[.int .i64 d1', .int .i64 d2'] 30)
        have HNW : Hid (Reads (wr.alloc (.cells #[.int .i64 d1', .int .i64 d2'] 30)) (wr.alloc (.cells #[.int .i64 d1', .int .i64 d2'] 30)).heap.size 2 (some ⟨wr.heap.size, 0, none⟩) 1 [.int .i64 d1', .int .i64 d2']) := hide ⟨rfl, fun _ => ⟨_, 0, rfl, lt_of_block hx1, fun j u hu => by
          match j, hu with
          | 0, hu => injection hu with hu; subst hu; exact cell_of_row _ _ 0 _ _ (0, 0) hx1
          | 1, hu => injection hu with hu; subst hu; exact cell_of_row _ _ 1 _ _ (0, 0) hx1
          | j + 2, hu => simp at hu⟩⟩
        have HRW := hide (own_below HR.out hb1 (Nat.le_refl _))
        have G1 : Hid (∀ u ∈ [Value.int .i64 d1', .int .i64 d2'], u.oneCell' = true) := hide (by intro u hu; simp at hu; rcases hu with rfl | rfl <;> rfl)
        have G2 : Hid (out.length + 1 ≤ maxLen) := hide (by unfold maxLen; have := HM.out; omega)
        have G3 : Hid ((out.length + 1) * 16 ≤ 140737488355328) := hide (by have := HM.out; omega)
        have G4 : Hid (w.heap.size ≤ (wr.alloc (.cells #[.int .i64 d1', .int .i64 d2'] 30)).heap.size) := hide (by have := HB.out.size; simp; omega)
        have G5 : Hid (Below w.heap.size w (wr.alloc (.cells #[.int .i64 d1', .int .i64 d2'] 30))) := hide (HB.out.alloc HB.out.size _)
        clear hb1 hx1
        go_wp2_with (at_builtin; refine wpList_append_any rfl (.tmp 20) (.tmp 25) 22 rfl w.heap.size 30 (.agg #[.int .i64 0, .int .i64 0]) 2 16 infoD Try.underlying22 rfl (by decide) _ out.length (flatD out) rfl HRW.out (wr.alloc (.cells #[.int .i64 d1', .int .i64 d2'] 30)).heap.size (some ⟨wr.heap.size, 0, none⟩) 1 1 [.int .i64 d1', .int .i64 d2'] rfl HNW.out G1.out G2.out G3.out G4.out ?_; intro vo' w3 hown3 hg3 hat3; have HO3 := hide hown3; have HB3 : Hid (Below w.heap.size w w3) := hide (G5.out.grown hg3 G4.out (fun k e => (HRW.out.lt k e).1)); clear hown3 hg3 hat3)
        go_roundw
        case rel => exact ⟨k + 1, HLT.out, by go_num, by rw [HW2.out]; unfold RowD; rw [flatD_append, List.length_append]; exact HO3.out, HB3.out⟩
        case measure => simp [intOf]; omega
    · obtain rfl : k = l.length := by omega
      simp only [List.take_length] at hr HR ⊢
      clear hr hb
      go_wp2_with fail
      go_ret
      exact ⟨.slice PA (woD l n).length pc, rfl, HR.out, HB.out⟩
theorem wiD_at {d : Du} : ∀ {l : List Du} {k : Nat}, k ≤ l.length → (∀ j, j < k → ltD (gD l j) d = true) → (k = l.length ∨ ltD (gD l k) d = false) → wiD l d = l.take k ++ d :: l.drop k
  | [], k, hk, _, _ => by
    obtain rfl : k = 0 := by simpa using hk
    rfl
  | x :: l, 0, _, _, h => by
    have h' : ltD x d = false := by
      rcases h with h | h
      · simp at h
      · exact h
    unfold wiD
    rw [List.takeWhile_cons, List.dropWhile_cons, if_neg (by rw [h']; simp), if_neg (by rw [h']; simp)]
    rfl
  | x :: l, k + 1, hk, h1, h => by
    have h0 : ltD x d = true := h1 0 (by omega)
    have ih := wiD_at (l := l) (k := k) (by simpa using hk) (fun j hj => h1 (j + 1) (by omega)) (by
      rcases h with h | h
      · exact .inl (by simpa using h)
      · exact .inr h)
    unfold wiD at ih ⊢
    rw [List.takeWhile_cons, List.dropWhile_cons, if_pos h0, if_pos h0, List.take_succ_cons, List.drop_succ_cons, List.cons_append, List.cons_append, ih]
theorem flatD_drop (l : List Du) (n : Nat) : flatD (l.drop n) = (flatD l).drop (n * 2) := by
  induction l generalizing n with
  | nil => simp [flatD]
  | cons d l ih =>
    cases n with
    | zero => rfl
    | succ n => rw [List.drop_succ_cons, ih, flatD_cons, show (n + 1) * 2 = n * 2 + 1 + 1 by omega]; rfl
/-- The tests that the document's loop makes at a place. -/
theorem with_tests (l : List Du) (d : Du) (k : Nat) (hk : k ≤ l.length) :
    (k < l.length ∧ ltD (gD l k) d = true ∧ (gD l k).1 < d.1) ∨ (k < l.length ∧ ltD (gD l k) d = true ∧ (gD l k).1 = d.1 ∧ (gD l k).2 < d.2) ∨
    (k < l.length ∧ ltD (gD l k) d = false ∧ ¬ (gD l k).1 < d.1 ∧ (gD l k).1 ≠ d.1) ∨ (k < l.length ∧ ltD (gD l k) d = false ∧ (gD l k).1 = d.1 ∧ ¬ (gD l k).2 < d.2) ∨ k = l.length := by
  rcases Nat.lt_or_ge k l.length with h | h
  · cases hb : ltD (gD l k) d with
    | true =>
      rcases (ltD_iff _ _).1 hb with h1 | ⟨h1, h2⟩
      · exact .inl ⟨h, rfl, h1⟩
      · exact .inr (.inl ⟨h, rfl, h1, h2⟩)
    | false =>
      have hn : ¬ (ltD (gD l k) d = true) := by rw [hb]; simp
      rw [ltD_iff] at hn
      by_cases h1 : (gD l k).1 = d.1
      · exact .inr (.inr (.inr (.inl ⟨h, rfl, h1, fun h2 => hn (.inr ⟨h1, h2⟩)⟩)))
      · exact .inr (.inr (.inl ⟨h, rfl, fun h2 => hn (.inl h2), h1⟩))
  · exact .inr (.inr (.inr (.inr (by omega))))
theorem row_new (w : World) (t n : Int) : Below w.heap.size w (w.alloc (.cells #[.int .i64 t, .int .i64 n] 30)) ∧ Reads (w.alloc (.cells #[.int .i64 t, .int .i64 n] 30)) (w.alloc (.cells #[.int .i64 t, .int .i64 n] 30)).heap.size 2 (some ⟨w.heap.size, 0, none⟩) 1 [.int .i64 t, .int .i64 n] := by
  have hx1 := heap_alloc_new w (.cells #[.int .i64 t, .int .i64 n] 30)
  exact ⟨(Below.refl _ _).alloc (Nat.le_refl _) _, rfl, fun _ => ⟨_, 0, rfl, lt_of_block hx1, fun j u hu => by
    match j, hu with
    | 0, hu => injection hu with hu; subst hu; exact cell_of_row _ _ 0 _ _ (0, 0) hx1
    | 1, hu => injection hu with hu; subst hu; exact cell_of_row _ _ 1 _ _ (0, 0) hx1
    | j + 2, hu => simp at hu⟩⟩
theorem two_one (t n : Int) : ∀ u ∈ [Value.int .i64 t, .int .i64 n], u.oneCell' = true := by intro u hu; simp at hu; rcases hu with rfl | rfl <;> rfl
/-- The due that the document puts in. -/
def HDat (b : Nat) (t n : Int) (w : World) : Prop := w.heap[b]? = some (.cells #[.int .i64 t, .int .i64 n] 30 (0, 0))
theorem HDat.cells {b : Nat} {t n : Int} {w : World} (h : HDat b t n w) : w.cell? ⟨b, 0, none⟩ = some (.int .i64 t) ∧ w.cell? ⟨b, 1, none⟩ = some (.int .i64 n) :=
  ⟨cell_of_row w b 0 _ _ (0, 0) h, cell_of_row w b 1 _ _ (0, 0) h⟩
set_option maxRecDepth 100000 in
set_option maxHeartbeats 4000000 in
theorem with_any (A : Option Addr) (c : Nat) (l : List Du) (d : Du) (w : World) (h : Reads w w.heap.size 2 A l.length (flatD l)) (hc : l.length ≤ c) (hl : l.length ≤ 2000000) (hA : (A = none ∧ l.length = 0 ∧ c = 0) ∨ ∃ b o, A = some ⟨b, o, none⟩) :
    Calls Try.prog 46 #[.slice A l.length c, duV d] w (WoP (wiD l d) w) := by
  have hat : ∀ k, k < l.length → ∃ g o, A = some ⟨g, o, none⟩ ∧ g < w.heap.size ∧ w.cell? ⟨g, o + k * 2, none⟩ = some (.int .i64 (gD l k).1) ∧ w.cell? ⟨g, o + k * 2 + 1, none⟩ = some (.int .i64 (gD l k).2) := fun k hk => by
    obtain ⟨g, o, e, hg, hc⟩ := h.2 (by omega)
    have := flatD_at l k hk
    exact ⟨g, o, e, hg, hc _ _ this.1, hc _ _ this.2⟩
  have HAT := hide hat
  have HRD := hide h
  have HCL := hide (And.intro hc hl)
  have HA := hide hA
  clear h hat hc hl hA
  obtain ⟨t, n⟩ := d
  unfold duV
  have hb1 : Below w.heap.size w (w.alloc (.cells #[.int .i64 t, .int .i64 n] 30)) := (Below.refl _ _).alloc (Nat.le_refl _) _
  have hx1 := heap_alloc_new w (.cells #[.int .i64 t, .int .i64 n] 30)
  have HX1 := hide hx1
  have HB1 := hide hb1
  clear hb1 hx1
  go_enter Try.func46, Try.ntmps46
  go_wp2_with fail
  generalize w.alloc (.cells #[.int .i64 t, .int .i64 n] 30) = w1 at *
  go_loopw [5] (fun iv wr => ∃ k : Nat, k ≤ l.length ∧ iv = .int .i64 k ∧ (∀ j : Nat, j < k → ltD (gD l j) (t, n) = true) ∧ Below w1.heap.size w1 wr) (fun iv _ => l.length - (intOf iv).toNat)
  case atStart => exact ⟨0, Nat.zero_le _, rfl, fun j hj => absurd hj (by omega), Below.refl _ _⟩
  case round =>
    obtain ⟨k, hk, rfl, hno, hb⟩ := hrel
    have HN := hide hno
    have HB := hide hb
    have hd := (hb.block _ (lt_of_block HX1.out)).trans HX1.out
    have y0 := cell_of_row wr w.heap.size 0 _ _ (0, 0) hd
    have y1 := cell_of_row wr w.heap.size 1 _ _ (0, 0) hd
    simp only [List.getElem?_toArray, List.getElem?_cons_zero, List.getElem?_cons_succ] at y0 y1
    have HBW := hide (HB1.out.trans (hb.mono HB1.out.size))
    have HDW := hide hd
    have ht := with_tests l (t, n) k hk
    have HXN : Hid (ltD (gD l k) (t, n) = true → ∀ j : Nat, j < k + 1 → ltD (gD l j) (t, n) = true) := hide (fun h j hj => by
      rcases Nat.lt_or_ge j k with h1 | h1
      · exact HN.out j h1
      · obtain rfl : j = k := by omega
        exact h)
    clear hno hb hd
    rcases ht with ⟨hlt, hg, h1⟩ | ⟨hlt, hg, h1, h2⟩ | ht
    · obtain ⟨g, o, rfl, hgw, hc0, hc1⟩ := HAT.out k hlt
      have d0 := (HBW.out.cell (p := ⟨g, o + k * 2, none⟩) hgw).trans hc0
      have d1 := (HBW.out.cell (p := ⟨g, o + k * 2 + 1, none⟩) hgw).trans hc1
      have HXN2 := hide (HXN.out hg)
      have HLT := hide hlt
      have hki : (k : Int) < (l.length : Int) := by omega
      have hk2 : (k : Int) ≤ 2000000 := by have := HCL.out.2; omega
      have hdk : decide (k < l.length) = true := decide_eq_true hlt
      simp only at h1
      have hd1 : decide ((gD l k).1 < t) = true := decide_eq_true h1
      clear hc0 hc1 hg h1
      generalize (gD l k).1 = a at *
      go_wp2_with fail
      go_quiet (fail)
      go_wp2_with fail
      go_roundw
      case rel => exact ⟨k + 1, HLT.out, by go_num, HXN2.out, below_drewN HB.out _⟩
      case measure => have := HLT.out; simp [intOf]; omega
    · obtain ⟨g, o, rfl, hgw, hc0, hc1⟩ := HAT.out k hlt
      have d0 := (HBW.out.cell (p := ⟨g, o + k * 2, none⟩) hgw).trans hc0
      have d1 := (HBW.out.cell (p := ⟨g, o + k * 2 + 1, none⟩) hgw).trans hc1
      have HXN2 := hide (HXN.out hg)
      have HLT := hide hlt
      have hki : (k : Int) < (l.length : Int) := by omega
      have hk2 : (k : Int) ≤ 2000000 := by have := HCL.out.2; omega
      have hdk : decide (k < l.length) = true := decide_eq_true hlt
      simp only at h1 h2
      rw [h1] at d0
      have hd1 : decide (t < t) = false := decide_eq_false (by omega)
      have hd2 : decide ((gD l k).2 < n) = true := decide_eq_true h2
      clear hc0 hc1 hg h1 h2
      generalize (gD l k).2 = a at *
      go_wp2_with fail
      go_quiet (fail)
      go_wp2_with fail
      go_roundw
      case rel => exact ⟨k + 1, HLT.out, by go_num, HXN2.out, below_drewN HB.out _⟩
      case measure => have := HLT.out; simp [intOf]; omega
    · have HE : Hid (wiD l (t, n) = l.take k ++ (t, n) :: l.drop k) := hide (wiD_at hk HN.out (by
        rcases ht with ⟨_, h, _⟩ | ⟨_, h, _⟩ | h
        · exact .inr h
        · exact .inr h
        · exact .inl h))
      have hck : k ≤ c := Nat.le_trans hk HCL.out.1
      have hk2 : (k : Int) ≤ 2000000 := by have := HCL.out.2; omega
      have HRa : Hid (∀ W : World, Below w.heap.size w W → Reads W W.heap.size 2 A k (flatD (l.take k))) := hide (fun W hb => by rw [flatD_take]; exact ((HRD.out.below hb).front hk).more hb.size)
      have HRb : Hid (∀ W : World, Below w.heap.size w W → Reads W W.heap.size 2 (if c = k then A else A.map (·.add (k * 2))) (l.length - k) (flatD (l.drop k))) := hide (fun W hb => by rw [flatD_drop]; exact ((HRD.out.below hb).cut hk HCL.out.1).more hb.size)
      have Ga := hide (flatD_one (l.take k))
      have Gb := hide (flatD_one (l.drop k))
      have G5 : Hid (0 + k ≤ maxLen ∧ (0 + k) * 16 ≤ 140737488355328 ∧ k + 1 ≤ maxLen ∧ (k + 1) * 16 ≤ 140737488355328 ∧ k + 1 + (l.length - k) ≤ maxLen ∧ (k + 1 + (l.length - k)) * 16 ≤ 140737488355328) := hide (by unfold maxLen; have := HCL.out; omega)
      have HBD : Hid (∀ m, Below w.heap.size w (wr.drewN m)) := hide (fun m => below_drewN HBW.out m)
      have HDD : Hid (∀ m {w4 : World}, (wr.drewN m).grownBy w4 none → HDat w.heap.size t n w4) := hide (fun m w4 hg => (hg.block _ (lt_of_block HDW.out) (by simp)).trans HDW.out)
      have HEND : Hid (∀ (W : World) (V : Value), W.ownsRow w.heap.size 30 2 V (k + 1 + (l.length - k)) (flatD (l.take k) ++ [.int .i64 t, .int .i64 n] ++ flatD (l.drop k)) → RowD w.heap.size W V (l.take k ++ (t, n) :: l.drop k)) := hide (fun W V h => by
        unfold RowD
        rw [flatD_append, flatD_cons, List.length_append, List.length_cons, List.length_take, List.length_drop, Nat.min_eq_left hk, show k + (l.length - k + 1) = k + 1 + (l.length - k) by omega]
        simpa using h)
      rcases HA.out with ⟨rfl, hl0, rfl⟩ | ⟨b, o, rfl⟩
      · obtain rfl := List.eq_nil_of_length_eq_zero hl0
        obtain rfl : k = 0 := by simpa using hk
        clear HRa HRb Ga Gb G5 ht
        go_wp2_with fail
        go_quiet (fail)
        go_wp2_with (first | (at_builtin; refine wpList_append_any rfl (.const (.slice none 0 0)) (.tmp 45) 22 rfl w.heap.size 30 (.agg #[.int .i64 0, .int .i64 0]) 2 16 infoD Try.underlying22 rfl (by decide) _ 0 _ rfl (World.ownsRow_nil _ _ _ _) _ none 0 0 [] rfl (Reads.none_ _ w.heap.size 2) (by intro u hu; cases hu) (by decide) (by decide) HBW.out.size ?_; intro v4 w4 ho4 hg4 hat4; rw [Nat.zero_add, List.nil_append] at ho4; have HO4 := hide ho4; have HB4 : Hid (Below w.heap.size w w4) := hide ((HBD.out _).grown hg4 HBW.out.size (fun j e => by cases e)); have HL4 : Hid (HDat w.heap.size t n w4) := hide (HDD.out _ hg4); have HRW := hide (own_below HO4.out (row_new w4 t n).1 (Nat.le_refl _)); have HNW := hide (row_new w4 t n).2; have HB4a : Hid (Below w.heap.size w (w4.alloc (.cells #[.int .i64 t, .int .i64 n] 30))) := hide (HB4.out.alloc HB4.out.size _); obtain ⟨y40, y41⟩ := HL4.out.cells; obtain ⟨PA, pc, rfl⟩ := own_shape ho4; clear ho4 hg4 hat4) | (at_builtin; refine wpList_append_any rfl (.tmp 47) (.tmp 49) 22 rfl w.heap.size 30 (.agg #[.int .i64 0, .int .i64 0]) 2 16 infoD Try.underlying22 rfl (by decide) _ 0 _ rfl HRW.out _ _ 1 1 [.int .i64 t, .int .i64 n] rfl HNW.out (two_one t n) (by decide) (by decide) HB4a.out.size ?_; intro v5 w5 ho5 hg5 hat5; have HO5 := hide ho5; have HB5 : Hid (Below w.heap.size w w5) := hide (HB4a.out.grown hg5 HB4a.out.size (fun j e => (HRW.out.lt j e).1)); obtain ⟨QA, qc, rfl⟩ := own_shape ho5; clear ho5 hg5 hat5) | (at_builtin; refine wpList_append_any rfl (.tmp 51) (.tmp 54) 22 rfl w.heap.size 30 (.agg #[.int .i64 0, .int .i64 0]) 2 16 infoD Try.underlying22 rfl (by decide) _ (0 + 1) _ rfl HO5.out _ none 0 0 [] rfl (Reads.none_ _ w.heap.size 2) (by intro u hu; cases hu) (by decide) (by decide) HB5.out.size ?_; intro v6 w6 ho6 hg6 hat6; have HO6 := hide ho6; have HB6 : Hid (Below w.heap.size w w6) := hide (HB5.out.grown hg6 HB5.out.size (fun j e => (HO5.out.lt j e).1)); obtain ⟨SA, sc, rfl⟩ := own_shape ho6; clear ho6 hg6 hat6))
        go_ret
        refine ⟨.slice SA (0 + 1 + 0) sc, rfl, ?_, HB6.out⟩
        rw [HE.out]
        exact HEND.out _ _ HO6.out
      obtain ⟨Af, hAf⟩ : ∃ Af, (if c = k then some (⟨b, o, none⟩ : Addr) else some ⟨b, o + k * 2, none⟩) = Af := ⟨_, rfl⟩
      have hmap : (if c = k then some (⟨b, o, none⟩ : Addr) else (some (⟨b, o, none⟩ : Addr)).map (·.add (k * 2))) = Af := by
        rw [← hAf]
        by_cases hk0 : k = 0
        · subst hk0; simp [Addr.add]
        · have hk0' : k * 2 ≠ 0 := by omega
          simp [Addr.add, hk0']
      rw [hmap] at HRb
      clear hmap
      rcases ht with ⟨hlt, _, h1, h2⟩ | ⟨hlt, _, h1, h2⟩ | ht
      · obtain ⟨g, o', e, hgw, hc0, hc1⟩ := HAT.out k hlt
        injection e with e
        injection e with e1 e2 _
        subst e1 e2
        have d0 := (HBW.out.cell (p := ⟨b, o + k * 2, none⟩) hgw).trans hc0
        have d1 := (HBW.out.cell (p := ⟨b, o + k * 2 + 1, none⟩) hgw).trans hc1
        have HLT := hide hlt
        have hki : (k : Int) < (l.length : Int) := by omega
        have hdk : decide (k < l.length) = true := decide_eq_true hlt
        simp only at h1 h2
        have hd1 : decide ((gD l k).1 < t) = false := decide_eq_false h1
        have hd2 : ((gD l k).1 == t) = false := by rw [beq_eq_false_iff_ne]; exact h2
        clear hc0 hc1 h1 h2
        generalize (gD l k).1 = a at *
        generalize (gD l k).2 = a' at *
        go_wp2_with fail
        go_quiet (fail)
        go_wp2_with (first | (at_builtin; refine wpList_append_any rfl (.const (.slice none 0 0)) (.tmp 45) 22 rfl w.heap.size 30 (.agg #[.int .i64 0, .int .i64 0]) 2 16 infoD Try.underlying22 rfl (by decide) _ 0 _ rfl (World.ownsRow_nil _ _ _ _) _ _ k c (flatD (l.take k)) rfl (HRa.out _ (HBD.out _)) Ga.out G5.out.1 G5.out.2.1 HBW.out.size ?_; intro v4 w4 ho4 hg4 hat4; rw [Nat.zero_add, List.nil_append] at ho4; have HO4 := hide ho4; have HB4 : Hid (Below w.heap.size w w4) := hide ((HBD.out _).grown hg4 HBW.out.size (fun j e => by cases e)); have HL4 : Hid (HDat w.heap.size t n w4) := hide (HDD.out _ hg4); have HRW := hide (own_below HO4.out (row_new w4 t n).1 (Nat.le_refl _)); have HNW := hide (row_new w4 t n).2; have HB4a : Hid (Below w.heap.size w (w4.alloc (.cells #[.int .i64 t, .int .i64 n] 30))) := hide (HB4.out.alloc HB4.out.size _); obtain ⟨y40, y41⟩ := HL4.out.cells; obtain ⟨PA, pc, rfl⟩ := own_shape ho4; clear ho4 hg4 hat4) | (at_builtin; refine wpList_append_any rfl (.tmp 47) (.tmp 49) 22 rfl w.heap.size 30 (.agg #[.int .i64 0, .int .i64 0]) 2 16 infoD Try.underlying22 rfl (by decide) _ k _ rfl HRW.out _ _ 1 1 [.int .i64 t, .int .i64 n] rfl HNW.out (two_one t n) G5.out.2.2.1 G5.out.2.2.2.1 HB4a.out.size ?_; intro v5 w5 ho5 hg5 hat5; have HO5 := hide ho5; have HB5 : Hid (Below w.heap.size w w5) := hide (HB4a.out.grown hg5 HB4a.out.size (fun j e => (HRW.out.lt j e).1)); obtain ⟨QA, qc, rfl⟩ := own_shape ho5; clear ho5 hg5 hat5) | (at_builtin; refine wpList_append_any rfl (.tmp 51) (.tmp 54) 22 rfl w.heap.size 30 (.agg #[.int .i64 0, .int .i64 0]) 2 16 infoD Try.underlying22 rfl (by decide) _ (k + 1) _ rfl HO5.out _ _ (l.length - k) (c - k) (flatD (l.drop k)) rfl (HRb.out _ HB5.out) Gb.out G5.out.2.2.2.2.1 G5.out.2.2.2.2.2 HB5.out.size ?_; intro v6 w6 ho6 hg6 hat6; have HO6 := hide ho6; have HB6 : Hid (Below w.heap.size w w6) := hide (HB5.out.grown hg6 HB5.out.size (fun j e => (HO5.out.lt j e).1)); obtain ⟨SA, sc, rfl⟩ := own_shape ho6; clear ho6 hg6 hat6))
        go_ret
        refine ⟨.slice SA (k + 1 + (l.length - k)) sc, rfl, ?_, HB6.out⟩
        rw [HE.out]
        exact HEND.out _ _ HO6.out
      · obtain ⟨g, o', e, hgw, hc0, hc1⟩ := HAT.out k hlt
        injection e with e
        injection e with e1 e2 _
        subst e1 e2
        have d0 := (HBW.out.cell (p := ⟨b, o + k * 2, none⟩) hgw).trans hc0
        have d1 := (HBW.out.cell (p := ⟨b, o + k * 2 + 1, none⟩) hgw).trans hc1
        have HLT := hide hlt
        have hki : (k : Int) < (l.length : Int) := by omega
        have hdk : decide (k < l.length) = true := decide_eq_true hlt
        simp only at h1 h2
        rw [h1] at d0
        have hd1 : decide (t < t) = false := decide_eq_false (by omega)
        have hd2 : decide ((gD l k).2 < n) = false := decide_eq_false h2
        clear hc0 hc1 h1 h2
        generalize (gD l k).2 = a' at *
        go_wp2_with fail
        go_quiet (fail)
        go_wp2_with (first | (at_builtin; refine wpList_append_any rfl (.const (.slice none 0 0)) (.tmp 45) 22 rfl w.heap.size 30 (.agg #[.int .i64 0, .int .i64 0]) 2 16 infoD Try.underlying22 rfl (by decide) _ 0 _ rfl (World.ownsRow_nil _ _ _ _) _ _ k c (flatD (l.take k)) rfl (HRa.out _ (HBD.out _)) Ga.out G5.out.1 G5.out.2.1 HBW.out.size ?_; intro v4 w4 ho4 hg4 hat4; rw [Nat.zero_add, List.nil_append] at ho4; have HO4 := hide ho4; have HB4 : Hid (Below w.heap.size w w4) := hide ((HBD.out _).grown hg4 HBW.out.size (fun j e => by cases e)); have HL4 : Hid (HDat w.heap.size t n w4) := hide (HDD.out _ hg4); have HRW := hide (own_below HO4.out (row_new w4 t n).1 (Nat.le_refl _)); have HNW := hide (row_new w4 t n).2; have HB4a : Hid (Below w.heap.size w (w4.alloc (.cells #[.int .i64 t, .int .i64 n] 30))) := hide (HB4.out.alloc HB4.out.size _); obtain ⟨y40, y41⟩ := HL4.out.cells; obtain ⟨PA, pc, rfl⟩ := own_shape ho4; clear ho4 hg4 hat4) | (at_builtin; refine wpList_append_any rfl (.tmp 47) (.tmp 49) 22 rfl w.heap.size 30 (.agg #[.int .i64 0, .int .i64 0]) 2 16 infoD Try.underlying22 rfl (by decide) _ k _ rfl HRW.out _ _ 1 1 [.int .i64 t, .int .i64 n] rfl HNW.out (two_one t n) G5.out.2.2.1 G5.out.2.2.2.1 HB4a.out.size ?_; intro v5 w5 ho5 hg5 hat5; have HO5 := hide ho5; have HB5 : Hid (Below w.heap.size w w5) := hide (HB4a.out.grown hg5 HB4a.out.size (fun j e => (HRW.out.lt j e).1)); obtain ⟨QA, qc, rfl⟩ := own_shape ho5; clear ho5 hg5 hat5) | (at_builtin; refine wpList_append_any rfl (.tmp 51) (.tmp 54) 22 rfl w.heap.size 30 (.agg #[.int .i64 0, .int .i64 0]) 2 16 infoD Try.underlying22 rfl (by decide) _ (k + 1) _ rfl HO5.out _ _ (l.length - k) (c - k) (flatD (l.drop k)) rfl (HRb.out _ HB5.out) Gb.out G5.out.2.2.2.2.1 G5.out.2.2.2.2.2 HB5.out.size ?_; intro v6 w6 ho6 hg6 hat6; have HO6 := hide ho6; have HB6 : Hid (Below w.heap.size w w6) := hide (HB5.out.grown hg6 HB5.out.size (fun j e => (HO5.out.lt j e).1)); obtain ⟨SA, sc, rfl⟩ := own_shape ho6; clear ho6 hg6 hat6))
        go_ret
        refine ⟨.slice SA (k + 1 + (l.length - k)) sc, rfl, ?_, HB6.out⟩
        rw [HE.out]
        exact HEND.out _ _ HO6.out
      · have hdk : decide (k < l.length) = false := decide_eq_false (by omega)
        have hki : ¬ (k : Int) < (l.length : Int) := by omega
        have hkl : k ≤ l.length := by omega
        clear ht
        go_wp2_with fail
        go_quiet (fail)
        go_wp2_with (first | (at_builtin; refine wpList_append_any rfl (.const (.slice none 0 0)) (.tmp 45) 22 rfl w.heap.size 30 (.agg #[.int .i64 0, .int .i64 0]) 2 16 infoD Try.underlying22 rfl (by decide) _ 0 _ rfl (World.ownsRow_nil _ _ _ _) _ _ k c (flatD (l.take k)) rfl (HRa.out _ (HBD.out _)) Ga.out G5.out.1 G5.out.2.1 HBW.out.size ?_; intro v4 w4 ho4 hg4 hat4; rw [Nat.zero_add, List.nil_append] at ho4; have HO4 := hide ho4; have HB4 : Hid (Below w.heap.size w w4) := hide ((HBD.out _).grown hg4 HBW.out.size (fun j e => by cases e)); have HL4 : Hid (HDat w.heap.size t n w4) := hide (HDD.out _ hg4); have HRW := hide (own_below HO4.out (row_new w4 t n).1 (Nat.le_refl _)); have HNW := hide (row_new w4 t n).2; have HB4a : Hid (Below w.heap.size w (w4.alloc (.cells #[.int .i64 t, .int .i64 n] 30))) := hide (HB4.out.alloc HB4.out.size _); obtain ⟨y40, y41⟩ := HL4.out.cells; obtain ⟨PA, pc, rfl⟩ := own_shape ho4; clear ho4 hg4 hat4) | (at_builtin; refine wpList_append_any rfl (.tmp 47) (.tmp 49) 22 rfl w.heap.size 30 (.agg #[.int .i64 0, .int .i64 0]) 2 16 infoD Try.underlying22 rfl (by decide) _ k _ rfl HRW.out _ _ 1 1 [.int .i64 t, .int .i64 n] rfl HNW.out (two_one t n) G5.out.2.2.1 G5.out.2.2.2.1 HB4a.out.size ?_; intro v5 w5 ho5 hg5 hat5; have HO5 := hide ho5; have HB5 : Hid (Below w.heap.size w w5) := hide (HB4a.out.grown hg5 HB4a.out.size (fun j e => (HRW.out.lt j e).1)); obtain ⟨QA, qc, rfl⟩ := own_shape ho5; clear ho5 hg5 hat5) | (at_builtin; refine wpList_append_any rfl (.tmp 51) (.tmp 54) 22 rfl w.heap.size 30 (.agg #[.int .i64 0, .int .i64 0]) 2 16 infoD Try.underlying22 rfl (by decide) _ (k + 1) _ rfl HO5.out _ _ (l.length - k) (c - k) (flatD (l.drop k)) rfl (HRb.out _ HB5.out) Gb.out G5.out.2.2.2.2.1 G5.out.2.2.2.2.2 HB5.out.size ?_; intro v6 w6 ho6 hg6 hat6; have HO6 := hide ho6; have HB6 : Hid (Below w.heap.size w w6) := hide (HB5.out.grown hg6 HB5.out.size (fun j e => (HO5.out.lt j e).1)); obtain ⟨SA, sc, rfl⟩ := own_shape ho6; clear ho6 hg6 hat6))
        go_ret
        refine ⟨.slice SA (k + 1 + (l.length - k)) sc, rfl, ?_, HB6.out⟩
        rw [HE.out]
        exact HEND.out _ _ HO6.out
end Go.Proofs.Ytdaicdaakegdmaa
