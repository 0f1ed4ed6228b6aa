/- The walks of what asks about single goods, and the document's. -/
import Derived.Test.YtffpiaipdeebcaaDoorGdQ
namespace Go.Proofs.YtffpiaipdeebcaaDoor
open Go.RowKit Go.Maps Go.Shelf
open Go.ChangeMaps Go.WideMaps

theorem shr_bit7 (g i : Nat) : (((g : Int) / 2 ^ i).tmod 2 == 1) = g.testBit i := by
  have e : ((g : Int) / 2 ^ i).tmod 2 = ((g / 2 ^ i % 2 : Nat) : Int) := by
    rw [Int.tmod_eq_emod_of_nonneg (Int.ediv_nonneg (by omega) (Int.pow_nonneg (by omega)))]
    simp
  rw [e, Nat.testBit_eq_decide_div_mod_eq, Bool.eq_iff_iff, beq_iff_eq, decide_eq_true_eq]
  omega
theorem refbit_any (g : Int) (h0 : 0 ≤ g) (h1 : g ≤ 31) (w : World) : Calls Tryd.prog 42 #[.int .i64 g] w (SamePost (.int .u32 ((2 ^ g.toNat : Nat) : Int)) w) := by
  obtain ⟨k, rfl⟩ := Int.eq_ofNat_of_zero_le h0
  obtain ⟨q, hq⟩ : ∃ q : Nat, 2 ^ k = q := ⟨_, rfl⟩
  have hq3 : q < 4294967296 := by
    have h : 2 ^ k < 2 ^ 32 := Nat.pow_lt_pow_right (by omega) (show k < 32 by omega)
    rw [← hq]
    exact h
  have hq4 : ((2 : Int) ^ k) = (q : Int) := by rw [← hq]; push_cast; rfl
  have hsh : IntKind.u32.wrap ((2 : Int) ^ k) = (q : Int) := by rw [hq4]; exact Go.IntWalk.u32_in _ (by omega)
  rw [Int.toNat_natCast, hq]
  clear hq hq4
  go_enter Tryd.func42, Tryd.ntmps42
  go_wp2
  go_ret
  exact ⟨by first | rfl | trace_state, rfl⟩
theorem and_one (s k : Nat) (hs : s < 4294967296) : (bits .and .u32 ((s : Int) / 2 ^ k) 1 == 1) = s.testBit k := by
  have e : (s : Int) / 2 ^ k = ((s / 2 ^ k : Nat) : Int) := by push_cast; rfl
  have h := u32_and_nat (s / 2 ^ k) 1 (Nat.lt_of_le_of_lt (Nat.div_le_self _ _) hs) (by omega)
  rw [e]
  rw [show ((1 : Nat) : Int) = 1 from rfl] at h
  rw [h, Nat.and_one_is_mod, Nat.testBit_eq_decide_div_mod_eq, Bool.eq_iff_iff, beq_iff_eq, decide_eq_true_eq]
  omega
theorem ediv_bit (s k : Nat) : ((s : Int) / ((2 ^ k : Nat) : Int) % 2 == 1) = s.testBit k := by
  have e : (s : Int) / ((2 ^ k : Nat) : Int) % 2 = ((s / 2 ^ k % 2 : Nat) : Int) := by push_cast; rfl
  rw [e, Nat.testBit_eq_decide_div_mod_eq, Bool.eq_iff_iff, beq_iff_eq, decide_eq_true_eq]
  omega
theorem has_any (s : Nat) (hs : s < 4294967296) (g : Int) (w : World) : Calls Tryd.prog 16 #[.int .u32 (s : Int), .int .i64 g] w (SamePost (.bool (hasB s g)) w) := by
  go_enter Tryd.func16, Tryd.ntmps16
  by_cases h1 : 0 ≤ g
  · have e1 : decide (0 ≤ g) = true := decide_eq_true h1
    by_cases h2 : g < 32
    · have e2 : decide (g < 32) = true := decide_eq_true h2
      obtain ⟨k, rfl⟩ := Int.eq_ofNat_of_zero_le h1
      have HE : Hid (hasB s k = (bits .and .u32 ((s : Int) / 2 ^ k) 1 == 1)) := hide (by rw [and_one s k hs]; unfold hasB; rw [e1, e2]; rfl)
      go_wp2
      go_ret
      exact ⟨by rw [HE.out]; rfl, rfl⟩
    · have e2 : decide (g < 32) = false := decide_eq_false h2
      have HE : Hid (hasB s g = false) := hide (by unfold hasB; rw [e2]; simp)
      go_wp2
      go_ret
      exact ⟨by rw [HE.out]; rfl, rfl⟩
  · have e1 : decide (0 ≤ g) = false := decide_eq_false h1
    have HE : Hid (hasB s g = false) := hide (by unfold hasB; rw [e1]; simp)
    go_wp2
    go_ret
    exact ⟨by rw [HE.out]; rfl, rfl⟩
theorem refhas_any (s : Nat) (hs : s < 4294967296) (g : Int) (w : World) : Calls Tryd.prog 17 #[.int .u32 (s : Int), .int .i64 g] w (SamePost (.bool (hasB s g)) w) := by
  have HBT := hide (fun h0 h1 => refbit_any g h0 h1 w)
  go_enter Tryd.func17, Tryd.ntmps17
  by_cases h1 : g < 0
  · have HE : Hid (hasB s g = false) := hide (by unfold hasB; rw [decide_eq_false (show ¬ 0 ≤ g by omega)]; simp)
    go_wp2
    go_ret
    exact ⟨by rw [HE.out]; rfl, rfl⟩
  · by_cases h2 : 31 < g
    · have HE : Hid (hasB s g = false) := hide (by unfold hasB; rw [decide_eq_false (show ¬ g < 32 by omega)]; simp)
      go_wp2
      go_ret
      exact ⟨by rw [HE.out]; rfl, rfl⟩
    · obtain ⟨k, rfl⟩ := Int.eq_ofNat_of_zero_le (show 0 ≤ g by omega)
      have HB := hide (HBT.out (by omega) (by omega))
      unfold SamePost at HB
      rw [Int.toNat_natCast] at HB
      have HE : Hid (hasB s k = ((s : Int) / ((2 ^ k : Nat) : Int) % 2 == 1)) := hide (by rw [ediv_bit s k]; unfold hasB; rw [decide_eq_true (show (0 : Int) ≤ (k : Int) by omega), decide_eq_true (show (k : Int) < 32 by omega)]; rfl)
      obtain ⟨q, hq⟩ : ∃ q : Nat, 2 ^ k = q := ⟨_, rfl⟩
      rw [hq] at HB HE
      have hq0 : ¬ q = 0 := by have := Nat.two_pow_pos k; omega
      clear hq HBT
      go_wp2_with (go_at_call 42; refine (HB.out).mono ?_; rintro e w1 ⟨rfl, rfl⟩)
      go_ret
      exact ⟨by rw [HE.out]; rfl, rfl⟩
theorem and_byte (s : Nat) (hs : s < 4294967296) : bits .and .u32 (s : Int) 255 = ((s % 256 : Nat) : Int) := by
  have h := u32_and_nat s 255 hs (by omega)
  rw [show ((255 : Nat) : Int) = 255 from rfl] at h
  rw [h, show (255 : Nat) = 2 ^ 8 - 1 from rfl, Nat.and_two_pow_sub_one_eq_mod]
set_option maxRecDepth 100000 in
set_option maxHeartbeats 4000000 in
theorem ones_any (s : Nat) (hs : s < 4294967296) (w : World) : Calls Tryd.prog 43 #[.int .u32 (s : Int)] w (ValPost (.int .i64 ((eachL s).length : Nat)) w) := by
  have h3 := and_byte s hs
  have h2 := and_byte (s / 256) (by omega)
  have h1 := and_byte (s / 65536) (by omega)
  have e2 : ((s / 256 : Nat) : Int) = (s : Int) / 256 := by omega
  have e1 : ((s / 65536 : Nat) : Int) = (s : Int) / 65536 := by omega
  have e0 : (s : Int) / 16777216 = ((s / 16777216 : Nat) : Int) := by omega
  rw [e2] at h2
  rw [e1] at h1
  have HC := hide (count_eachL s)
  obtain ⟨b0, hb0⟩ : ∃ b, s / 16777216 = b := ⟨_, rfl⟩
  obtain ⟨b1, hb1⟩ : ∃ b, s / 65536 % 256 = b := ⟨_, rfl⟩
  obtain ⟨b2, hb2⟩ : ∃ b, s / 256 % 256 = b := ⟨_, rfl⟩
  obtain ⟨b3, hb3⟩ : ∃ b, s % 256 = b := ⟨_, rfl⟩
  rw [hb0] at e0
  rw [hb1] at h1
  rw [hb2] at h2
  rw [hb3] at h3
  have l0 : (b0 : Int) ≤ 255 := by omega
  have l1 : (b1 : Int) ≤ 255 := by omega
  have l2 : (b2 : Int) ≤ 255 := by omega
  have l3 : (b3 : Int) ≤ 255 := by omega
  have HBS : Hid (s / 2 ^ 24 % 256 = b0 ∧ s / 2 ^ 16 % 256 = b1 ∧ s / 2 ^ 8 % 256 = b2 ∧ s % 256 = b3) := hide ⟨by omega, hb1, hb2, hb3⟩
  have HP : Hid ((Lib.pop8 b0 + Lib.pop8 b1 + Lib.pop8 b2 + Lib.pop8 b3) % 256 = (((eachL s).length : Nat) : Int)) := hide (by
    have p := fun (b : Nat) (hb : (b : Int) ≤ 255) => And.intro (Lib.pop8_eq ⟨b, by omega⟩) (Lib.onesCount_le8 ⟨b, by omega⟩)
    simp only at p
    obtain ⟨q0, q1⟩ := p b0 l0
    obtain ⟨q2, q3⟩ := p b1 l1
    obtain ⟨q4, q5⟩ := p b2 l2
    obtain ⟨q6, q7⟩ := p b3 l3
    rw [HC.out, q0, q2, q4, q6, HBS.out.1, HBS.out.2.1, HBS.out.2.2.1, HBS.out.2.2.2]
    omega)
  clear hb0 hb1 hb2 hb3 e1 e2 hs
  go_enter Tryd.func43, Tryd.ntmps43
  go_wp2_with fail
  go_quiet (fail)
  go_wp2_with fail
  go_ret
  exact ⟨by rw [← HP.out]; rfl, below_drewN (Below.refl _ _) _⟩
theorem count_any (s : Nat) (hs : s < 4294967296) (w : World) : Calls Tryd.prog 20 #[.int .u32 (s : Int)] w (ValPost (.int .i64 ((eachL s).length : Nat)) w) := by
  have HO := hide (ones_any s hs w)
  go_enter Tryd.func20, Tryd.ntmps20
  go_wp2_with (go_at_call 43; refine (HO.out).mono ?_; rintro e w1 ⟨rfl, hb1⟩; have HB1 := hide hb1; clear hb1)
  go_ret
  exact ⟨rfl, HB1.out⟩
theorem next_any (s o : Nat) (hs : s < 4294967296) (ho : o < 4294967296) (w : World) : Calls Tryd.prog 32 #[.int .u32 (s : Int), .int .u32 (o : Int)] w (SamePost (.tuple #[.int .u32 ((nextG s o).1 : Nat), .bool (nextG s o).2]) w) := by
  have HW := hide (within_any s o hs ho w)
  unfold BoolPost at HW
  have hand := u32_and_nat ((s + 4294967296 - o) % 4294967296) o (Nat.mod_lt _ (by omega)) ho
  have hsub : IntKind.u32.wrap ((s : Int) - (o : Int)) = (((s + 4294967296 - o) % 4294967296 : Nat) : Int) := by
    show ((s : Int) - (o : Int)) % 4294967296 = _
    omega
  have hm2 : ((s : Int) - (o : Int)) % 4294967296 = (((s + 4294967296 - o) % 4294967296 : Nat) : Int) := by omega
  have HN : Hid (nextG s o = if !withinB s o || s == o then (0, false) else ((s + 4294967296 - o) % 4294967296 &&& o, true)) := hide rfl
  obtain ⟨d, hd⟩ : ∃ d, (s + 4294967296 - o) % 4294967296 = d := ⟨_, rfl⟩
  rw [hd] at hand hsub hm2 HN
  obtain ⟨r, hr⟩ : ∃ r, nextG s o = r := ⟨_, rfl⟩
  rw [hr] at HN ⊢
  clear hd hr
  go_enter Tryd.func32, Tryd.ntmps32
  cases hwi : withinB s o
  · rw [hwi] at HW HN
    go_wp2_with (go_at_call 18; refine (HW.out).mono ?_; rintro e w1 ⟨rfl, rfl⟩)
    go_ret2
    exact ⟨by rw [HN.out]; rfl, rfl⟩
  · rw [hwi] at HW HN
    by_cases he : s = o
    · subst he
      have HE : Hid (r = (0, false)) := hide (by rw [HN.out]; simp)
      go_wp2_with (go_at_call 18; refine (HW.out).mono ?_; rintro e w1 ⟨rfl, rfl⟩)
      go_ret2
      exact ⟨by rw [HE.out]; rfl, rfl⟩
    · have HE : Hid (r = (d &&& o, true)) := hide (by rw [HN.out]; simp [he])
      have he2 : ((s : Int) == (o : Int)) = false := by rw [beq_eq_false_iff_ne]; omega
      go_wp2_with (go_at_call 18; refine (HW.out).mono ?_; rintro e w1 ⟨rfl, rfl⟩)
      go_ret2
      exact ⟨by rw [HE.out]; rfl, rfl⟩

/-- The set of some goods, or the refusal: up to a place. -/
theorem ofS_snoc (l : List Int) (g : Int) : ofS (l ++ [g]) = ofS l ||| 2 ^ g.toNat := by simp [ofS]
theorem ofS_lt {l : List Int} (h : ∀ g ∈ l, badG g = false) : ofS l < 4294967296 := by
  suffices hh : ∀ (l : List Int) (s : Nat), s < 4294967296 → (∀ g ∈ l, badG g = false) → l.foldl (fun s g => s ||| 2 ^ g.toNat) s < 4294967296 from hh l 0 (by omega) h
  intro l
  induction l with
  | nil => exact fun s hs _ => hs
  | cons g l ih =>
    intro s hs hb
    have h1 := hb g (List.mem_cons_self ..)
    simp [badG] at h1
    exact ih _ (or_lt hs (by omega)) (fun x hx => hb x (List.mem_cons_of_mem _ hx))
theorem any_no7 {α : Type} {f : α → Bool} {l : List α} (h : ∀ (j : Nat) y, j < l.length → l[j]? = some y → f y = false) : l.any f = false := by
  rw [List.any_eq_false]
  intro x hx
  obtain ⟨i, hi, rfl⟩ := List.getElem_of_mem hx
  rw [h i _ hi (List.getElem?_eq_getElem hi)]
  simp
theorem any_yes7 {α : Type} {f : α → Bool} {l : List α} {k : Nat} {x : α} (h : l[k]? = some x) (hx : f x = true) : l.any f = true :=
  List.any_eq_true.2 ⟨x, List.mem_of_getElem? h, hx⟩
theorem no_take {α : Type} {p : α → Bool} {l : List α} {k : Nat} (h : ∀ j y, j < k → l[j]? = some y → p y = false) : ∀ x ∈ l.take k, p x = false := by
  intro x hx
  obtain ⟨i, hi, rfl⟩ := List.getElem_of_mem hx
  rw [List.length_take] at hi
  rw [List.getElem_take]
  exact h i _ (by omega) (List.getElem?_eq_getElem (by omega))
set_option maxRecDepth 100000 in
set_option maxHeartbeats 2000000 in
theorem of_any (A : Option Addr) (c : Nat) (l : List Int) (w : World) (h : One intV w w.heap.size A l) (hl : (l.length : Int) ≤ 9223372036854775807) :
    Calls Tryd.prog 9 #[.slice A l.length c] w (SamePost (.tuple #[.int .u32 ((ofG l).1 : Nat), .int .i64 (ofG l).2]) w) := by
  have hat := One.at_ h
  clear h
  go_enter Tryd.func9, Tryd.ntmps9
  go_upto_region 3 with fail
  go_loopw [4, 9] (fun sv iv wr => ∃ k : Nat, k ≤ l.length ∧ sv = .int .u32 (ofS (l.take k) : Nat) ∧ iv = .int .i64 k ∧ (∀ (j : Nat) y, j < k → l[j]? = some y → badG y = false) ∧ w = wr) (fun _ iv _ => l.length - (intOf iv).toNat)
  case atStart => exact ⟨0, Nat.zero_le _, rfl, rfl, fun j y hj => absurd hj (by omega), by trivial⟩
  case round =>
    obtain ⟨k, hk, rfl, rfl, hno, rfl⟩ := hrel
    have HN := hide hno
    clear hno
    by_cases hlt : k < l.length
    · obtain ⟨b, o, rfl, hbB, hcc⟩ := hat (by omega)
      obtain ⟨x, hx⟩ : ∃ x, l[k]? = some x := ⟨l[k], List.getElem?_eq_getElem hlt⟩
      have d0 := hcc k x hx
      have hki : (k : Int) < (l.length : Int) := by omega
      have HX := hide hx
      clear hcc hx hat
      by_cases h1 : x < 0
      · have HE : Hid (ofG l = (0, 2)) := hide (by unfold ofG; rw [if_pos (any_yes7 HX.out (by simp [badG, h1]))])
        go_wp2_with fail
        go_ret2
        exact ⟨by rw [HE.out]; rfl, rfl⟩
      · by_cases h2 : 32 ≤ x
        · have HE : Hid (ofG l = (0, 2)) := hide (by unfold ofG; rw [if_pos (any_yes7 HX.out (by simp [badG]; omega))])
          go_wp2_with fail
          go_ret2
          exact ⟨by rw [HE.out]; rfl, rfl⟩
        · have HBG : Hid (badG x = false) := hide (by simp [badG]; omega)
          have HTK : Hid (ofS (l.take (k + 1)) = ofS (l.take k) ||| 2 ^ x.toNat) := hide (by rw [List.take_add_one, HX.out, ← ofS_snoc]; rfl)
          have hsl := ofS_lt (no_take HN.out)
          obtain ⟨g, rfl⟩ := Int.eq_ofNat_of_zero_le (show 0 ≤ x by omega)
          obtain ⟨sc, hsc⟩ : ∃ sc, ofS (l.take k) = sc := ⟨_, rfl⟩
          rw [Int.toNat_natCast] at HTK
          obtain ⟨q2, hq2⟩ : ∃ q2 : Nat, 2 ^ g = q2 := ⟨_, rfl⟩
          have hq3 : q2 < 4294967296 := by
            have h : 2 ^ g < 2 ^ 32 := Nat.pow_lt_pow_right (by omega) (show g < 32 by omega)
            rw [← hq2]
            exact h
          have hq4 : ((2 : Int) ^ g) = (q2 : Int) := by rw [← hq2]; push_cast; rfl
          have hsh : IntKind.u32.wrap ((2 : Int) ^ g) = (q2 : Int) := by rw [hq4]; exact Go.IntWalk.u32_in _ (by omega)
          rw [hsc] at hsl HTK
          rw [hq2] at HTK
          rw [hsc]
          have hor := u32_or_nat sc q2 hsl hq3
          clear hq2 hq3 hq4 hsl hsc
          go_wp2_with fail
          go_roundw
          case rel => exact ⟨k + 1, by omega, by rw [HTK.out], by go_num, no_next HN.out HX.out HBG.out, by trivial⟩
          case measure => simp [intOf]; omega
    · obtain rfl : k = l.length := by omega
      have HE : Hid (ofG l = (ofS l, 0)) := hide (by unfold ofG; rw [any_no7 HN.out]; rfl)
      rw [List.take_of_length_le (Nat.le_refl _)]
      go_wp2_with fail
      go_ret2
      exact ⟨by rw [HE.out]; rfl, rfl⟩
set_option maxRecDepth 100000 in
set_option maxHeartbeats 2000000 in
theorem refof_any (A : Option Addr) (c : Nat) (l : List Int) (w : World) (h : One intV w w.heap.size A l) (hl : (l.length : Int) ≤ 9223372036854775807) :
    Calls Tryd.prog 10 #[.slice A l.length c] w (SamePost (.tuple #[.int .u32 ((ofG l).1 : Nat), .int .i64 (ofG l).2]) w) := by
  have hat := One.at_ h
  clear h
  go_enter Tryd.func10, Tryd.ntmps10
  go_upto_region 3 with fail
  go_loopw [4, 5] (fun sv iv wr => ∃ k : Nat, k ≤ l.length ∧ sv = .int .u32 (ofS (l.take k) : Nat) ∧ iv = .int .i64 k ∧ (∀ (j : Nat) y, j < k → l[j]? = some y → badG y = false) ∧ w = wr) (fun _ iv _ => l.length - (intOf iv).toNat)
  case atStart => exact ⟨0, Nat.zero_le _, rfl, rfl, fun j y hj => absurd hj (by omega), by trivial⟩
  case round =>
    obtain ⟨k, hk, rfl, rfl, hno, rfl⟩ := hrel
    have HN := hide hno
    clear hno
    by_cases hlt : k < l.length
    · obtain ⟨b, o, rfl, hbB, hcc⟩ := hat (by omega)
      obtain ⟨x, hx⟩ : ∃ x, l[k]? = some x := ⟨l[k], List.getElem?_eq_getElem hlt⟩
      have d0 := hcc k x hx
      have hki : (k : Int) < (l.length : Int) := by omega
      have HX := hide hx
      clear hcc hx hat
      by_cases h1 : x < 0
      · have HE : Hid (ofG l = (0, 2)) := hide (by unfold ofG; rw [if_pos (any_yes7 HX.out (by simp [badG, h1]))])
        go_wp2_with fail
        go_ret2
        exact ⟨by rw [HE.out]; rfl, rfl⟩
      · by_cases h2 : 31 < x
        · have HE : Hid (ofG l = (0, 2)) := hide (by unfold ofG; rw [if_pos (any_yes7 HX.out (by simp [badG, h2]))])
          go_wp2_with fail
          go_ret2
          exact ⟨by rw [HE.out]; rfl, rfl⟩
        · have HBG : Hid (badG x = false) := hide (by simp [badG]; omega)
          have HTK : Hid (ofS (l.take (k + 1)) = ofS (l.take k) ||| 2 ^ x.toNat) := hide (by rw [List.take_add_one, HX.out, ← ofS_snoc]; rfl)
          have hsl := ofS_lt (no_take HN.out)
          obtain ⟨g, rfl⟩ := Int.eq_ofNat_of_zero_le (show 0 ≤ x by omega)
          obtain ⟨sc, hsc⟩ : ∃ sc, ofS (l.take k) = sc := ⟨_, rfl⟩
          rw [Int.toNat_natCast] at HTK
          rw [hsc] at hsl HTK
          rw [hsc]
          have hor := or_pow sc g
          have hol := or_lt hsl (show g < 32 by omega)
          have HHS := hide (refhas_any sc hsl g w)
          have HBT := hide (refbit_any g (by omega) (by omega) w)
          rw [Int.toNat_natCast] at HBT
          have hhb : hasB sc g = sc.testBit g := by unfold hasB; rw [decide_eq_true (show (0 : Int) ≤ (g : Int) by omega), decide_eq_true (show (g : Int) < 32 by omega)]; rfl
          rw [hhb] at HHS
          unfold SamePost at HHS HBT
          obtain ⟨q2, hq2⟩ : ∃ q2 : Nat, 2 ^ g = q2 := ⟨_, rfl⟩
          rw [hq2] at HBT HTK hor hol
          clear hq2 hhb hsc
          cases hbt : sc.testBit g
          · rw [hbt, if_neg (by simp)] at hor
            rw [hbt] at HHS
            rw [← hor] at HTK hol
            have hsum : IntKind.u32.wrap ((sc : Int) + (q2 : Int)) = ((sc + q2 : Nat) : Int) := by rw [Go.IntWalk.u32_in _ (by omega)]; omega
            clear hor hbt
            go_wp2_with (first
              | (go_at_call 17; refine (HHS.out).mono ?_; rintro e w1 ⟨rfl, rfl⟩)
              | (go_at_call 42; refine (HBT.out).mono ?_; rintro e w1 ⟨rfl, rfl⟩))
            go_roundw
            case rel => exact ⟨k + 1, by omega, by rw [HTK.out]; first | rfl | exact congrArg (Value.int .u32) hsum | go_num, by go_num, no_next HN.out HX.out HBG.out, by trivial⟩
            case measure => simp [intOf]; omega
          · rw [hbt, if_pos rfl] at hor
            rw [hbt] at HHS
            rw [← hor] at HTK
            clear hor hbt
            go_wp2_with (first
              | (go_at_call 17; refine (HHS.out).mono ?_; rintro e w1 ⟨rfl, rfl⟩)
              | (go_at_call 42; refine (HBT.out).mono ?_; rintro e w1 ⟨rfl, rfl⟩))
            go_roundw
            case rel => exact ⟨k + 1, by omega, by rw [HTK.out], by go_num, no_next HN.out HX.out HBG.out, by trivial⟩
            case measure => simp [intOf]; omega
    · obtain rfl : k = l.length := by omega
      have HE : Hid (ofG l = (ofS l, 0)) := hide (by unfold ofG; rw [any_no7 HN.out]; rfl)
      rw [List.take_of_length_le (Nat.le_refl _)]
      go_wp2_with fail
      go_ret2
      exact ⟨by rw [HE.out]; rfl, rfl⟩
end Go.Proofs.YtffpiaipdeebcaaDoor
