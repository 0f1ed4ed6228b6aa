/- The walk of the document's Share. -/
import Derived.Test.YtgjeihgkcmheeaaDoorRfD
namespace Go.Proofs.YtgjeihgkcmheeaaDoor
open Go.RowKit Go.Shelf

/-- The rests, those served struck out. -/
def leftR (r : Nat → Int) (n j i : Nat) : Int := if served r n j i then -1 else r i
theorem served_step {r : Nat → Int} {n j e : Nat} (he : (ordF r n)[j]? = some (e : Int)) (i : Nat) : served r n (j + 1) i = (served r n j i || decide (i = e)) := by
  unfold served
  rw [List.take_add_one, he]
  simp only [Option.toList_some, List.mem_append, List.mem_singleton]
  by_cases h : (i : Int) ∈ (ordF r n).take j
  · rw [decide_eq_true h, decide_eq_true (.inl h)]; rfl
  · rw [decide_eq_false h, Bool.false_or]
    by_cases h2 : i = e
    · rw [decide_eq_true h2, decide_eq_true (.inr (by omega))]
    · rw [decide_eq_false h2, decide_eq_false (fun h3 => by rcases h3 with h3 | h3; exact h h3; omega)]
theorem not_served {r : Nat → Int} {n j e : Nat} (he : (ordF r n)[j]? = some (e : Int)) : served r n j e = false := decide_eq_false (not_taken (ordF_nodup r n) he)
theorem leftR_step {r : Nat → Int} {n j e : Nat} (he : (ordF r n)[j]? = some (e : Int)) (i : Nat) : updF (leftR r n j) e (-1) i = leftR r n (j + 1) i := by
  unfold updF leftR
  rw [served_step he]
  by_cases hi : i = e
  · rw [if_pos hi, decide_eq_true hi, Bool.or_true, if_pos rfl]
  · rw [if_neg hi, decide_eq_false hi, Bool.or_false]
/-- The first of the greatest rests is the one that is served next. -/
theorem next_best {r : Nat → Int} {n j b : Nat} (hr : ∀ i, i < n → 0 ≤ r i) (hj : j < n) (hb : b < n) (hm : ∀ t, t < n → leftR r n j t ≤ leftR r n j b ∧ (leftR r n j t = leftR r n j b → b ≤ t)) : (ordF r n)[j]? = some (b : Int) := by
  obtain ⟨e, he, hen⟩ := ord_get (r := r) hj
  have h1 : leftR r n j e = r e := by unfold leftR; rw [not_served he]; rfl
  have h2 := hm e hen
  rw [h1] at h2
  have h3 := hr e hen
  have hnb : served r n j b = false := by
    cases h : served r n j b with
    | false => rfl
    | true =>
      have : leftR r n j b = -1 := by unfold leftR; rw [h]; rfl
      omega
  have h4 : leftR r n j b = r b := by unfold leftR; rw [hnb]; rfl
  rw [h4] at h2
  by_cases heb : b = e
  · rw [heb]; exact he
  · exfalso
    have hmem : (b : Int) ∈ ordF r n := ordF_mem.2 (by omega)
    have hnt : (b : Int) ∉ (ordF r n).take j := by unfold served at hnb; exact of_decide_eq_false hnb
    rw [← List.take_append_drop j (ordF r n), List.mem_append] at hmem
    rcases hmem with h5 | h5
    · exact hnt h5
    · obtain ⟨hl, hge⟩ := List.getElem?_eq_some_iff.1 he
      rw [List.drop_eq_getElem_cons hl, hge, List.mem_cons] at h5
      rcases h5 with h5 | h5
      · omega
      · have hs := (ordF_sorted r n).drop (i := j)
        rw [List.drop_eq_getElem_cons hl, hge, List.pairwise_cons] at hs
        have := hs.1 _ h5
        unfold Ahead at this
        simp only [Int.toNat_natCast] at this
        rcases this with h6 | ⟨h6, h7⟩
        · omega
        · have := h2.2 h6
          omega
/-- Two rows of the call's own, apart. -/
structure TwoR (w : World) (v1 v2 : Value) (k1 k2 : Nat) (f1 f2 : Nat → Int) (W : World) : Prop where
  bel : Below w.heap.size w W
  o1 : W.ownsRow w.heap.size 2 1 v1 k1 (intV (rowF f1 k1))
  o2 : W.ownsRow w.heap.size 2 1 v2 k2 (intV (rowF f2 k2))
  ap : ∀ g, v1.ownBlock = some g → v2.ownBlock ≠ some g
theorem intV_snoc (f : Nat → Int) (k : Nat) : intV (rowF f (k + 1)) = intV (rowF f k) ++ intV [f k] := by unfold intV; rw [rowF_succ, List.map_append]
theorem intV_set (f : Nat → Int) (n k : Nat) (v : Int) : (intV (rowF f n)).set k (.int .i64 v) = intV (rowF (updF f k v) n) := by unfold intV; rw [← List.map_set, rowF_set]
section
variable {w W W1 W2 : World} {v1 v2 v' : Value} {k1 k2 : Nat} {f1 f2 : Nat → Int}
theorem TwoR.below (h : TwoR w v1 v2 k1 k2 f1 f2 W) (hb : Below W.heap.size W W1) : TwoR w v1 v2 k1 k2 f1 f2 W1 :=
  ⟨h.bel.trans (hb.mono h.bel.size), own_below h.o1 hb (Nat.le_refl _), own_below h.o2 hb (Nat.le_refl _), h.ap⟩
theorem TwoR.push1 (h : TwoR w v1 v2 k1 k2 f1 f2 W) (ho : W1.ownsRow w.heap.size 2 1 v' (k1 + 1) (intV (rowF f1 k1) ++ intV [f1 k1])) (hg : W.grownBy W1 v1.ownBlock) (ha : v'.ownBlock = v1.ownBlock ∨ v'.ownBlock = some W.heap.size) : TwoR w v' v2 (k1 + 1) k2 f1 f2 W1 := by
  refine ⟨h.bel.grown hg h.bel.size (fun g e => (h.o1.lt g e).1), by rw [intV_snoc]; exact ho, h.o2.kept hg ?_, fun g e1 e2 => ?_⟩
  · cases e : v1.ownBlock with
    | none =>
      cases e2 : v2.ownBlock with
      | none => exact .inl rfl
      | some g => exact .inr (by simp)
    | some g => exact .inr (h.ap g e)
  · rcases ha with h1 | h1
    · exact h.ap g (h1 ▸ e1) e2
    · rw [h1] at e1
      injection e1 with e1
      have := (h.o2.lt g e2).2
      omega
theorem TwoR.push2 (h : TwoR w v1 v2 k1 k2 f1 f2 W) (ho : W1.ownsRow w.heap.size 2 1 v' (k2 + 1) (intV (rowF f2 k2) ++ intV [f2 k2])) (hg : W.grownBy W1 v2.ownBlock) (ha : v'.ownBlock = v2.ownBlock ∨ v'.ownBlock = some W.heap.size) : TwoR w v1 v' k1 (k2 + 1) f1 f2 W1 := by
  refine ⟨h.bel.grown hg h.bel.size (fun g e => (h.o2.lt g e).1), h.o1.kept hg ?_, by rw [intV_snoc]; exact ho, fun g e1 e2 => ?_⟩
  · cases e : v1.ownBlock with
    | none => exact .inl rfl
    | some g => exact .inr (fun e2 => h.ap g e e2.symm)
  · rcases ha with h1 | h1
    · exact h.ap g e1 (h1 ▸ e2)
    · rw [h1] at e2
      injection e2 with e2
      have := (h.o1.lt g e1).2
      omega
theorem TwoR.set1 {g c : Nat} (h : TwoR w (.slice (some ⟨g, 0, none⟩) k1 c) v2 k1 k2 f1 f2 W) (i : Nat) (u : Int) : TwoR w (.slice (some ⟨g, 0, none⟩) k1 c) v2 k1 k2 (updF f1 i u) f2 (W.setCell ⟨g, i, none⟩ (.int .i64 u)) := by
  refine ⟨h.bel.setCell (h.o1.lt g rfl).1 _, ?_, ownsRow_setCell_other h.o2 (h.ap g rfl) _, h.ap⟩
  rw [← intV_set]
  exact (h.o1.stored i _).1
theorem TwoR.set2 {g c : Nat} (h : TwoR w v1 (.slice (some ⟨g, 0, none⟩) k2 c) k1 k2 f1 f2 W) (i : Nat) (u : Int) : TwoR w v1 (.slice (some ⟨g, 0, none⟩) k2 c) k1 k2 f1 (updF f2 i u) (W.setCell ⟨g, i, none⟩ (.int .i64 u)) := by
  refine ⟨h.bel.setCell (h.o2.lt g rfl).1 _, ownsRow_setCell_other h.o1 (fun e => h.ap g e rfl) _, ?_, h.ap⟩
  rw [← intV_set]
  exact (h.o2.stored i _).1
theorem TwoR.congr {g1 g2 : Nat → Int} (h : TwoR w v1 v2 k1 k2 f1 f2 W) (e1 : ∀ i, i < k1 → f1 i = g1 i) (e2 : ∀ i, i < k2 → f2 i = g2 i) : TwoR w v1 v2 k1 k2 g1 g2 W := by
  obtain ⟨a, b, c, d⟩ := h
  rw [rowF_congr e1] at b
  rw [rowF_congr e2] at c
  exact ⟨a, b, c, d⟩
theorem own_int {w : World} {B g c n k : Nat} {f : Nat → Int} (h : w.ownsRow B 2 1 (.slice (some ⟨g, 0, none⟩) n c) n (intV (rowF f n))) (hk : k < n) : w.cell? ⟨g, k, none⟩ = some (.int .i64 (f k)) ∧ w.frozen? ⟨g, k, none⟩ = false := by
  refine ⟨?_, h.frozenAt k⟩
  rw [h.cellAt k (by omega), intV_get (rowF_get f hk)]
end
/-- What the document's Share leaves. -/
def ShareD (c : Int) (ws : List Int) (w : World) (e : Ending) (w' : World) : Prop :=
  Below w.heap.size w w' ∧ ((shareOK c ws = false ∧ e = .returned (.tuple #[.slice none 0 0, .int .i64 2])) ∨
    (shareOK c ws = true ∧ ∃ g cc, e = .returned (.tuple #[.slice (some ⟨g, 0, none⟩) ws.length cc, .int .i64 0]) ∧ w'.ownsRow w.heap.size 2 1 (.slice (some ⟨g, 0, none⟩) ws.length cc) ws.length (intV (shareL c ws))))
set_option maxRecDepth 100000 in
set_option maxHeartbeats 8000000 in
theorem docShare_any {w : World} {A : Option Addr} {n cc : Nat} {c : Int} {ws : List Int} (h : Reads w w.heap.size 1 A n (intV ws)) (hn : n ≤ 1000000) :
    Calls Tryd.prog 13 #[.int .i64 c, .slice A n cc] w (ShareD c ws w) := by
  have HR := hide h
  have hlen := h.len
  have HA := hide (docAre_any c w)
  have HAL := hide (all_any (c := cc) h (by omega))
  clear h
  have hn9 : (n : Int) ≤ 1000000 := by omega
  by_cases hc : isC c = true
  case neg =>
    have hc2 : isC c = false := by simpa using hc
    have HOK : Hid (shareOK c ws = false) := hide (by unfold shareOK; rw [hc2, Bool.and_false])
    rw [hc2] at HA
    clear hc hc2 hlen hn
    go_enter Tryd.func13, Tryd.ntmps13
    go_wp2_with fail
    refine (HA.out).mono ?_
    rintro _ _ ⟨rfl, rfl⟩
    go_wp2_with fail
    go_ret2
    exact ⟨Below.refl _ _, .inl ⟨HOK.out, rfl⟩⟩
  by_cases hall : allC ws = true
  case neg =>
    have ha2 : allC ws = false := by simpa using hall
    have HOK : Hid (shareOK c ws = false) := hide (by
      rw [← Bool.not_eq_true, shareOK_iff]
      exact fun h => hall h.2.1)
    rw [hc] at HA
    rw [ha2] at HAL
    clear hc ha2 hall hlen hn
    go_enter Tryd.func13, Tryd.ntmps13
    go_wp2_with fail
    refine (HA.out).mono ?_
    rintro _ _ ⟨rfl, rfl⟩
    go_wp2_with fail
    refine (HAL.out).mono ?_
    rintro _ _ ⟨rfl, rfl⟩
    go_wp2_with fail
    go_ret2
    exact ⟨Below.refl _ _, .inl ⟨HOK.out, rfl⟩⟩
  have HALL := hide hall
  have hcb := isC_iff.1 hc
  rw [hc] at HA
  rw [hall] at HAL
  have HLN := hide hlen
  have HNN := hide hn
  obtain ⟨cn, rfl⟩ : ∃ cn : Nat, c = cn := ⟨c.toNat, by omega⟩
  have HCB : Hid (cn ≤ 1099511627776) := hide (by omega)
  have HCC := hide hc
  clear hc hcb hall hlen hn
  go_enter Tryd.func13, Tryd.ntmps13
  go_wp2_with fail
  refine (HA.out).mono ?_
  rintro _ _ ⟨rfl, rfl⟩
  go_wp2_with fail
  refine (HAL.out).mono ?_
  rintro _ _ ⟨rfl, rfl⟩
  rename World => w
  go_wp2_with fail
  go_loop [7, 6] (fun iv sv => ∃ (k : Nat) (s : Int), k ≤ n ∧ iv = .int .i64 k ∧ sv = .int .i64 s ∧ sumL (ws.take k) = s) (fun iv _ => n - (intOf iv).toNat)
  case atStart => exact ⟨0, 0, Nat.zero_le _, rfl, rfl, rfl⟩
  case round =>
    obtain ⟨k, s, hk, rfl, rfl, hs⟩ := hrel
    have HS := hide hs
    have hk0 : (0 : Int) ≤ (k : Int) := by omega
    have hk9 : (k : Int) ≤ 1000000 := by omega
    have hsb := sumL_takeB HALL.out k
    rw [hs] at hsb
    clear hs
    have hs0 : 0 ≤ s := hsb.1
    have hs1 : s ≤ 1152921504606846976 := by omega
    clear hsb
    by_cases hlt : k < n
    · obtain ⟨x, hx⟩ := get_of (l := ws) (k := k) (by have := HLN.out; omega)
      obtain ⟨g, o, rfl, _, hcell⟩ := HR.out.int hlt hx
      have hki : (k : Int) < (n : Int) := by omega
      obtain ⟨hx0, hx1⟩ := allC_get HALL.out hx
      have HX := hide ((sumL_take hx).trans (by rw [HS.out]))
      have HLT := hide hlt
      have hw := wrap_in (z := s + x) (by omega)
      clear hx hlt
      go_wp2_with fail
      go_roundw
      case rel => exact ⟨k + 1, s + x, HLT.out, by go_num, rfl, HX.out⟩
      case measure => have := HLT.out; simp [intOf]; omega
    · have hki : ¬ (k : Int) < (n : Int) := by omega
      have hkn : k = n := by omega
      subst hkn
      have hsum : sumL ws = s := by rw [← HS.out, List.take_of_length_le (by have := HLN.out; omega)]
      by_cases hz : s = 0
      · subst hz
        have HOK : Hid (shareOK (cn : Int) ws = false) := hide (by
          rw [← Bool.not_eq_true, shareOK_iff]
          exact fun h => h.2.2.1 hsum)
        clear hsum
        go_wp2_with fail
        go_ret2
        exact ⟨Below.refl _ _, .inl ⟨HOK.out, rfl⟩⟩
      · have hz2 : (s == 0) = false := by rw [beq_eq_false_iff_ne]; exact hz
        have hsp : 0 < s := by omega
        obtain ⟨sn, rfl⟩ : ∃ sn : Nat, s = sn := ⟨s.toNat, by omega⟩
        have HOK : Hid (shareOK (cn : Int) ws = true) := hide (shareOK_iff.2 ⟨by have := HLN.out; have := HNN.out; omega, HALL.out, by omega, HCC.out⟩)
        have HSUM := hide hsum
        have hk1 : 0 < k := by
          rcases Nat.eq_zero_or_pos k with h | h
          · subst h
            have := List.eq_nil_of_length_eq_zero HLN.out
            rw [this] at hsum
            have : (0 : Int) = sn := hsum
            omega
          · exact h
        have HSB : Hid (0 < sn ∧ sn ≤ 1152921504606846976 ∧ 0 < k ∧ k ≤ 1000000 ∧ ws.length = k) := hide ⟨by omega, by omega, hk1, HNN.out, HLN.out⟩
        have HL := hide (left_bound (c := (cn : Int)) hsum (by omega) (by have := HLN.out; omega))
        have HT0 : Hid (TwoR w (.slice none 0 0) (.slice none 0 0) 0 0 (qF cn sn ws) (rF cn sn ws) w) := hide ⟨Below.refl _ _, World.ownsRow_nil _ _ _ _, World.ownsRow_nil _ _ _ _, (fun g e => by cases e)⟩
        clear hsum hz hs0 hs1 hk1 hk hki
        go_wp2_with fail
        go_loopw [11, 8, 9, 10] (fun iv v1 v2 lv W => ∃ (i : Nat) (t : Int), i ≤ k ∧ iv = .int .i64 i ∧ lv = .int .i64 t ∧ t = (cn : Int) - sumL (rowF (qF cn sn ws) i) ∧ TwoR w v1 v2 i i (qF cn sn ws) (rF cn sn ws) W) (fun iv _ _ _ _ => k - (intOf iv).toNat)
        case atStart => exact ⟨0, cn, Nat.zero_le _, rfl, rfl, by simp [rowF, sumL], HT0.out⟩
        case round =>
          rename World => wi
          clear HT0 HA HAL
          obtain ⟨i, t, hi, rfl, rfl, ht, htr⟩ := hrel
          have HTT := hide ht
          have HTR := hide htr
          obtain ⟨A1, c1, rfl, _⟩ := own_sh htr.o1
          obtain ⟨A2, c2, rfl, _⟩ := own_sh htr.o2
          clear ht htr
          have hi0 : (0 : Int) ≤ (i : Int) := by omega
          have hi9 : (i : Int) ≤ 1000000 := by omega
          by_cases hlt : i < k
          · have hki : (i : Int) < (k : Int) := by omega
            obtain ⟨x, hx⟩ := get_of (l := ws) (k := i) (by have := HLN.out; omega)
            obtain ⟨g, o, rfl, _, hcell⟩ := (HR.out.below HTR.out.bel).int hlt hx
            obtain ⟨hx0, hx1⟩ := allC_get HALL.out hx
            obtain ⟨xn, rfl⟩ : ∃ xn : Nat, x = xn := ⟨x.toNat, by omega⟩
            have hxs : xn ≤ sn := by
              have h1 := sumL_take hx
              have h2 := sumL_pre HALL.out (i + 1)
              have h3 := (sumL_takeB HALL.out i).1
              rw [HSUM.out] at h2
              omega
            have hdv := divided_any cn xn sn HCB.out HSB.out.1 HSB.out.2.1 (by omega) hxs wi
            have hqb := q_bound (c := (cn : Int)) HALL.out HSUM.out (by have := HSB.out.1; omega) (by omega) i (by rw [HSB.out.2.2.2.2]; exact hlt)
            have htb := sum_q (c := (cn : Int)) HALL.out HSUM.out (by have := HSB.out.1; omega) (by omega) i (by rw [HSB.out.2.2.2.2]; omega)
            have hq : qF cn sn ws i = ((cn * xn / sn : Nat) : Int) ∧ rF cn sn ws i = ((cn * xn % sn : Nat) : Int) := by
              have e : ws.getD i 0 = xn := by rw [List.getD_eq_getElem?_getD, hx]; rfl
              have e2 : (cn : Int) * xn = ((cn * xn : Nat) : Int) := (Int.natCast_mul _ _).symm
              unfold qF rF
              rw [e, e2]
              exact ⟨rfl, rfl⟩
            rw [← hq.1, ← hq.2] at hdv
            have HDV := hide hdv
            obtain ⟨q, hqq⟩ : ∃ q, q = qF cn sn ws i := ⟨_, rfl⟩
            obtain ⟨r, hrr⟩ : ∃ r, r = rF cn sn ws i := ⟨_, rfl⟩
            rw [← hqq, ← hrr] at HDV
            rw [← hqq] at hqb
            have HQ : Hid (q = qF cn sn ws i ∧ r = rF cn sn ws i) := hide ⟨hqq, hrr⟩
            have hcb : cn ≤ 1099511627776 := HCB.out
            have h3 : (cn : Int) * i ≤ 1099511627776 * i := Int.mul_le_mul_of_nonneg_right (by omega) (by omega)
            have ft : IntKind.i64.wrap (t - q) = t - q := wrap_in (by rw [HTT.out]; omega)
            have HLT := hide hlt
            have HN1 := hide (own_new wi [.int .i64 q] 2 (by simp [maxLen]))
            have HB1 : Hid (Below wi.heap.size wi (wi.alloc (.cells #[.int .i64 q] 2))) := hide ((Below.refl _ _).alloc (Nat.le_refl _) _)
            have HTa := hide (HTR.out.below HB1.out)
            have G1 := hide (intV_one [q])
            have G1b := hide (intV_one [r])
            have G2 : Hid (i + 1 ≤ maxLen) := hide (by unfold maxLen; omega)
            have G3 : Hid ((i + 1) * 8 ≤ 140737488355328) := hide (by omega)
            have G4 : Hid (w.heap.size ≤ (wi.alloc (.cells #[.int .i64 q] 2)).heap.size) := hide HTa.out.bel.size
            clear hx hx0 hx1 hxs hdv hqb htb hq hqq hrr hcb h3 hlt
            go_wp2_with fail
            refine (HDV.out).mono ?_
            rintro _ _ ⟨rfl, rfl⟩
            rename World => wi
            clear hcell
            go_upto_region 18 with (at_builtin; refine wpList_append_any rfl (.tmp 60) (.tmp 62) 22 rfl w.heap.size 2 (.int .i64 0) 1 8 info2 Tryd.underlying22 rfl (by decide) _ i (intV (rowF (qF cn sn ws) i)) rfl HTa.out.o1 _ (some ⟨wi.heap.size, 0, none⟩) 1 1 (intV [q]) rfl (Reads.of_own HN1.out) G1.out G2.out G3.out G4.out ?_; intro v1' w1 ho1 hg1 hat1; have HT1 := hide (HTa.out.push1 (by rw [← HQ.out.1]; exact ho1) hg1 hat1); obtain ⟨A1', c1', rfl, _⟩ := own_sh ho1; clear ho1 hg1 hat1)
            have HN2 := hide (own_new w1 [.int .i64 r] 2 (by simp [maxLen]))
            have HB2 : Hid (Below w1.heap.size w1 (w1.alloc (.cells #[.int .i64 r] 2))) := hide ((Below.refl _ _).alloc (Nat.le_refl _) _)
            have HTb := hide (HT1.out.below HB2.out)
            have G5 : Hid (w.heap.size ≤ (w1.alloc (.cells #[.int .i64 r] 2)).heap.size) := hide HTb.out.bel.size
            clear HN1 HTa G4
            go_upto_region 19 with (at_builtin; refine wpList_append_any rfl (.tmp 64) (.tmp 66) 22 rfl w.heap.size 2 (.int .i64 0) 1 8 info2 Tryd.underlying22 rfl (by decide) _ i (intV (rowF (rF cn sn ws) i)) rfl HTb.out.o2 _ (some ⟨w1.heap.size, 0, none⟩) 1 1 (intV [r]) rfl (Reads.of_own HN2.out) G1b.out G2.out G3.out G5.out ?_; intro v2' w2 ho2 hg2 hat2; have HT2 := hide (HTb.out.push2 (by rw [← HQ.out.2]; exact ho2) hg2 hat2); obtain ⟨A2', c2', rfl, _⟩ := own_sh ho2; clear ho2 hg2 hat2)
            have HTN : Hid (t - q = (cn : Int) - sumL (rowF (qF cn sn ws) (i + 1))) := hide (by
              rw [rowF_succ, sumL_append, ← HQ.out.1, HTT.out]
              simp [sumL]
              omega)
            go_wp2_with fail
            go_roundw
            case rel => exact ⟨i + 1, t - q, HLT.out, by go_num, rfl, HTN.out, HT2.out⟩
            case measure => have := HLT.out; simp [intOf]; omega
          · have hki : ¬ (i : Int) < (k : Int) := by omega
            have hik : i = k := by omega
            subst hik
            obtain ⟨L, hL, hLn⟩ : ∃ L : Nat, t = L ∧ L < i := by
              have h1 := HL.out
              unfold leftF at h1
              rw [HSB.out.2.2.2.2, ← HTT.out] at h1
              exact ⟨t.toNat, by omega, by omega⟩
            have HLE : Hid ((leftF cn sn ws).toNat = L) := hide (by
              unfold leftF
              rw [HSB.out.2.2.2.2, ← HTT.out, hL]; rfl)
            subst hL
            have HLN2 := hide hLn
            obtain ⟨g1, c1', e1, _⟩ := own_some HTR.out.o1 HSB.out.2.2.1
            obtain ⟨g2, c2', e2, _⟩ := own_some HTR.out.o2 HSB.out.2.2.1
            injection e1 with e1 _ e1c
            injection e2 with e2 _ e2c
            subst e1 e2 e1c e2c
            have HT3 : Hid (TwoR w (.slice (some ⟨g1, 0, none⟩) i c1) (.slice (some ⟨g2, 0, none⟩) i c2) i i (shF cn sn ws 0) (leftR (rF cn sn ws) i 0) wi) := hide (HTR.out.congr (fun t _ => (shF_zero _ _ _ _).symm) (fun t _ => by unfold leftR served; simp))
            clear HTR HTT hLn hi hki
            go_wp2_with fail
            go_loopw [10] (fun lv W => ∃ j m : Nat, j + m = L ∧ lv = .int .i64 (m : Int) ∧ TwoR w (.slice (some ⟨g1, 0, none⟩) i c1) (.slice (some ⟨g2, 0, none⟩) i c2) i i (shF cn sn ws j) (leftR (rF cn sn ws) i j) W) (fun lv _ => (intOf lv).toNat)
            case atStart => exact ⟨0, L, by omega, rfl, HT3.out⟩
            case round =>
              rename World => wj
              clear HT3
              obtain ⟨j, m, hjm, rfl, htr⟩ := hrel
              have HTR := hide htr
              have HJM := hide hjm
              clear htr hjm
              by_cases hm : m = 0
              · subst hm
                have HJL : Hid (j = L) := hide (by have := HJM.out; omega)
                go_wp2_with fail
                go_ret2
                refine ⟨HTR.out.bel, .inr ⟨HOK.out, g1, c1, by rw [HSB.out.2.2.2.2]; rfl, ?_⟩⟩
                unfold shareL
                rw [HSB.out.2.2.2.2, HSUM.out, HLE.out, ← HJL.out]
                exact HTR.out.o1
              · have hmI : (0 : Int) < (m : Int) := by omega
                have HM0 := hide (show 0 < m by omega)
                have hmN : 0 < m := HM0.out
                have hm9 : (m : Int) ≤ 1000000 := by have := HJM.out; have := HLN2.out; omega
                clear hm
                obtain ⟨R, hR⟩ : ∃ R : Nat → Int, R = leftR (rF cn sn ws) i j := ⟨_, rfl⟩
                have HRR := hide hR
                rw [← hR] at HTR
                clear hR
                go_wp2_with fail
                go_loopw [15, 14] (fun iv bv W => ∃ t b : Nat, 1 ≤ t ∧ t ≤ i ∧ b < t ∧ iv = .int .i64 (t : Int) ∧ bv = .int .i64 (b : Int) ∧ (∀ u : Nat, u < t → R u ≤ R b ∧ (R u = R b → b ≤ u)) ∧ Below wj.heap.size wj W) (fun iv _ _ => i - (intOf iv).toNat)
                case atStart => exact ⟨1, 0, Nat.le_refl _, HSB.out.2.2.1, by omega, rfl, rfl, fun u hu => by have : u = 0 := (by omega); subst this; exact ⟨Int.le_refl _, fun _ => Nat.le_refl _⟩, Below.refl _ _⟩
                case round =>
                  rename World => wt
                  obtain ⟨t, b, ht1, hti, hbt, rfl, rfl, hmx, hbel⟩ := hrel
                  have HMX := hide hmx
                  have HBE := hide hbel
                  clear hmx hbel
                  have ht0 : (0 : Int) ≤ (t : Int) := by omega
                  have hb0 : (0 : Int) ≤ (b : Int) := by omega
                  have ht9 : (t : Int) ≤ 1000000 := by omega
                  by_cases hlt : t < i
                  · have hti2 : (t : Int) < (i : Int) := by omega
                    have hbi2 : (b : Int) < (i : Int) := by omega
                    have x1 := (own_int (HTR.out.below HBE.out).o2 hlt).1
                    have x2 := (own_int (HTR.out.below HBE.out).o2 (show b < i by omega)).1
                    have HLT := hide (show t < i ∧ b < t from ⟨hlt, hbt⟩)
                    by_cases hgt : R b < R t
                    · have HX : Hid (∀ u : Nat, u < t + 1 → R u ≤ R t ∧ (R u = R t → t ≤ u)) := hide (fun u hu => by
                        rcases Nat.lt_or_ge u t with h | h
                        · have := HMX.out u h; exact ⟨by omega, fun e => by omega⟩
                        · have : u = t := by omega
                          subst this; exact ⟨Int.le_refl _, fun _ => Nat.le_refl _⟩)
                      obtain ⟨rt, hrt⟩ : ∃ a, a = R t := ⟨_, rfl⟩
                      obtain ⟨rb, hrb⟩ : ∃ a, a = R b := ⟨_, rfl⟩
                      rw [← hrt] at x1 hgt
                      rw [← hrb] at x2 hgt
                      clear hlt hbt hti ht1 hrt hrb
                      go_wp2_with fail
                      go_quiet (fail)
                      go_wp2_with fail
                      go_roundw
                      case rel => exact ⟨t + 1, t, by omega, HLT.out.1, by omega, by go_num, rfl, HX.out, bel_drewN HBE.out _⟩
                      case measure => have := HLT.out; simp [intOf]; omega
                    · have HX : Hid (∀ u : Nat, u < t + 1 → R u ≤ R b ∧ (R u = R b → b ≤ u)) := hide (fun u hu => by
                        rcases Nat.lt_or_ge u t with h | h
                        · exact HMX.out u h
                        · have : u = t := by omega
                          subst this; exact ⟨by omega, fun _ => by omega⟩)
                      obtain ⟨rt, hrt⟩ : ∃ a, a = R t := ⟨_, rfl⟩
                      obtain ⟨rb, hrb⟩ : ∃ a, a = R b := ⟨_, rfl⟩
                      rw [← hrt] at x1 hgt
                      rw [← hrb] at x2 hgt
                      clear hlt hbt hti ht1 hrt hrb
                      go_wp2_with fail
                      go_quiet (fail)
                      go_wp2_with fail
                      go_roundw
                      case rel => exact ⟨t + 1, b, by omega, HLT.out.1, by have := HLT.out; omega, by go_num, rfl, HX.out, bel_drewN HBE.out _⟩
                      case measure => have := HLT.out; simp [intOf]; omega
                  · have hti2 : ¬ (t : Int) < (i : Int) := by omega
                    have htI : t = i := by omega
                    have hbi : b < i := by omega
                    have hnx : (ordF (rF cn sn ws) i)[j]? = some (b : Int) := next_best (r := rF cn sn ws) (fun u _ => Int.emod_nonneg _ (by have := HSB.out.1; omega)) (by have := HJM.out; have := HLN2.out; have := HM0.out; omega) hbi (fun u hu => by
                      have := HMX.out u (by omega)
                      rw [HRR.out] at this
                      exact this)
                    have HTB := hide (HTR.out.below HBE.out)
                    have x1 := own_int HTB.out.o1 hbi
                    have hst := shF_step (c := (cn : Int)) (s := sn) (ws := ws) (j := j) (e := b) (by rw [HSB.out.2.2.2.2]; exact hnx)
                    have hqb := q_bound (c := (cn : Int)) HALL.out HSUM.out (by have := HSB.out.1; omega) (by omega) b (by rw [HSB.out.2.2.2.2]; exact hbi)
                    rw [hst.1] at x1
                    have HST := hide hst
                    have HNX := hide hnx
                    have hcb : cn ≤ 1099511627776 := HCB.out
                    have HT4 := hide (HTB.out.set1 b (qF cn sn ws b + 1))
                    have HT5 := hide (HT4.out.set2 b (-1))
                    have x2 := own_int HT4.out.o2 hbi
                    obtain ⟨q, hq⟩ : ∃ q, q = qF cn sn ws b := ⟨_, rfl⟩
                    rw [← hq] at HT4 HT5 x1 x2 hqb
                    have hw : IntKind.i64.wrap (q + 1) = q + 1 := wrap_in (by omega)
                    obtain ⟨y1, y2⟩ := x1
                    obtain ⟨z1, z2⟩ := x2
                    have hbI : (b : Int) < (i : Int) := by omega
                    have hw2 : IntKind.i64.wrap ((m : Int) - 1) = ((m - 1 : Nat) : Int) := by
                      have : (m : Int) - 1 = ((m - 1 : Nat) : Int) := by have := HM0.out; omega
                      rw [this]; exact wrap_in (by omega)
                    obtain ⟨m2, hm2⟩ : ∃ a, a = m - 1 := ⟨_, rfl⟩
                    rw [← hm2] at hw2
                    have HM2 := hide hm2
                    have HTF : Hid (TwoR w (.slice (some ⟨g1, 0, none⟩) i c1) (.slice (some ⟨g2, 0, none⟩) i c2) i i (shF cn sn ws (j + 1)) (leftR (rF cn sn ws) i (j + 1)) ((wt.setCell ⟨g1, b, none⟩ (.int .i64 (q + 1))).setCell ⟨g2, b, none⟩ (.int .i64 (-1)))) := hide (HT5.out.congr (fun u _ => by
                      have := HST.out.2 u
                      rw [HST.out.1, ← hq] at this
                      exact this) (fun u _ => by
                      rw [HRR.out]
                      exact leftR_step HNX.out u))
                    clear hlt hbt hti ht1 htI hnx hst hqb hcb hq hm2
                    go_wp2_with fail
                    go_roundw
                    case rel => exact ⟨j + 1, m2, by have := HM2.out; have := HJM.out; have := HM0.out; omega, rfl, HTF.out⟩
                    case measure => have := HM2.out; have := HM0.out; simp [intOf]; omega
end Go.Proofs.YtgjeihgkcmheeaaDoor
