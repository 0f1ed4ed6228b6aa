/- The walks of the reference's Normal and Same. -/
import Derived.Test.YtkiebjgpghajbaaDoorLow
namespace Go.Proofs.YtkiebjgpghajbaaDoor
open Go.RowKit Go.Maps
open Go.ChangeMaps Go.WideMaps

/-! ### One by one into a row in order -/
theorem keepFrom_append (q : Nat → Offer → Bool) : ∀ (l r : List Offer) (k : Nat), keepFrom q k (l ++ r) = keepFrom q k l ++ keepFrom q (k + l.length) r
  | [], r, k => by simp [keepFrom]
  | b :: l, r, k => by
    rw [List.cons_append, keepFrom, keepFrom, keepFrom_append q l r (k + 1), List.length_cons, show k + 1 + l.length = k + (l.length + 1) from by omega]
    split <;> simp
theorem keepTo_pairs {l : List Offer} (hw : OWide l) (k : Nat) : (keepTo l k).Pairwise (fun a b => a.1 ≠ b.1) := by
  have h := keep_pairs hw
  unfold keepL at h
  rw [← List.take_append_drop k l, keepFrom_append, List.take_append_drop] at h
  exact (List.pairwise_append.1 h).1
def nrm (l : List Offer) (k : Nat) : List Offer := (keepTo l k).foldl (fun out o => insO o out) []
theorem nrm_strict {l : List Offer} (hw : OWide l) (k : Nat) : Strict (nrm l k) ∧ (nrm l k).Perm (keepTo l k) := by
  have := ins_all (keepTo l k) [] List.Pairwise.nil (by simpa using keepTo_pairs hw k)
  simpa [nrm] using this
theorem nrm_len {l : List Offer} (hw : OWide l) (k : Nat) (hk : k ≤ l.length) : (nrm l k).length ≤ l.length := by
  rw [(nrm_strict hw k).2.length_eq]
  exact Nat.le_trans (keepFrom_len _ _ _) (by simp; omega)
theorem nrm_zero (l : List Offer) : nrm l 0 = [] := by simp [nrm, keepTo, keepFrom]
theorem nrm_all (l : List Offer) : nrm l l.length = normL l := by
  unfold nrm normL
  rw [keepTo_all]
theorem nrm_skip {l : List Offer} {k : Nat} {o : Offer} (h : l[k]? = some o) (hq : keepO l k o = false) : nrm l (k + 1) = nrm l k := by
  unfold nrm
  rw [keepTo_succ h, hq]
  simp
theorem nrm_ins {l : List Offer} {k : Nat} {o : Offer} (h : l[k]? = some o) (hq : keepO l k o = true) : nrm l (k + 1) = insO o (nrm l k) := by
  unfold nrm
  rw [keepTo_succ h, hq]
  simp
/-- Where one belongs, counted from behind. -/
theorem ins_at (o : Offer) : ∀ (out : List Offer) (t : Nat), Strict out → t ≤ out.length → (∀ (j : Nat) b, t ≤ j → out[j]? = some b → o.1 < b.1) → (∀ (s : Nat) b, t = s + 1 → out[s]? = some b → ¬ o.1 < b.1) → insO o out = out.take t ++ o :: out.drop t
  | [], t, _, _, _, _ => by simp [insO]
  | b :: l, 0, _, _, h1, _ => by
    rw [insO, if_pos (h1 0 b (Nat.le_refl _) rfl)]
    simp
  | b :: l, t + 1, h, ht, h1, h2 => by
    unfold Strict at h
    rw [List.pairwise_cons] at h
    have hb : ¬ o.1 < b.1 := by
      cases t with
      | zero => exact h2 0 b rfl rfl
      | succ s =>
        have hs : s < l.length := by simp at ht; omega
        have h3 := h2 (s + 1) l[s] rfl (by simp [hs])
        have h4 := h.1 l[s] (List.getElem_mem hs)
        omega
    rw [insO, if_neg hb, ins_at o l t h.2 (by simpa using ht) (fun j c hj hc => h1 (j + 1) c (by omega) (by simpa using hc)) (fun s c hs hc => h2 (s + 1) c (by omega) (by simpa using hc))]
    simp
/-- The row while it is shifted: the first q stand, those behind the gap are one further. -/
def Gap (out r : List Offer) (q : Nat) : Prop := r.length = out.length + 1 ∧ (∀ j : Nat, j < q → r[j]? = out[j]?) ∧ (∀ j : Nat, q < j → j ≤ out.length → r[j]? = out[j - 1]?)
theorem gap_start (out : List Offer) (o : Offer) : Gap out (out ++ [o]) out.length :=
  ⟨by simp, fun j hj => by rw [List.getElem?_append_left hj], fun j h1 h2 => by omega⟩
theorem gap_step {out r : List Offer} {s : Nat} {y : Offer} (h : Gap out r (s + 1)) (hs : s + 1 ≤ out.length) (hy : out[s]? = some y) : Gap out (r.set (s + 1) y) s := by
  obtain ⟨h1, h2, h3⟩ := h
  refine ⟨by simpa using h1, fun j hj => ?_, fun j h4 h5 => ?_⟩
  · rw [List.getElem?_set_ne (by omega)]
    exact h2 j (by omega)
  · by_cases e : j = s + 1
    · subst e
      rw [List.getElem?_set_self (by omega)]
      exact hy.symm
    · rw [List.getElem?_set_ne (by omega)]
      exact h3 j (by omega) h5
theorem gap_end {out r : List Offer} {t : Nat} {o : Offer} (h : Gap out r t) (ht : t ≤ out.length) : r.set t o = out.take t ++ o :: out.drop t := by
  obtain ⟨h1, h2, h3⟩ := h
  apply List.ext_getElem?
  intro j
  have hl : (out.take t).length = t := by rw [List.length_take]; omega
  rcases Nat.lt_trichotomy j t with h | rfl | h
  · rw [List.getElem?_set_ne (by omega), h2 j h, List.getElem?_append_left (by omega), List.getElem?_take_of_lt h]
  · rw [List.getElem?_set_self (by omega), List.getElem?_append_right (by omega), hl]
    simp
  · rw [List.getElem?_set_ne (by omega), List.getElem?_append_right (by omega), hl]
    obtain ⟨d, rfl⟩ : ∃ d, j = t + 1 + d := ⟨j - t - 1, by omega⟩
    rw [show t + 1 + d - t = d + 1 by omega, List.getElem?_cons_succ, List.getElem?_drop]
    by_cases h5 : t + 1 + d ≤ out.length
    · rw [h3 _ (by omega) h5]
      congr 1
      omega
    · rw [List.getElem?_eq_none (by omega), List.getElem?_eq_none (by omega)]
theorem own_drewN {w : World} {B e size n : Nat} {v : Value} {xs : List Value} (h : w.ownsRow B e size v n xs) (q : Nat) : (w.drewN q).ownsRow B e size v n xs :=
  own_below h (below_drewN (Below.refl _ _) q) (Nat.le_refl _)

set_option maxRecDepth 100000 in
set_option maxHeartbeats 8000000 in
theorem refnormal_any (A : Option Addr) (c : Nat) (l : List Offer) (w : World) (h : Offs w w.heap.size A l) (hl : l.length ≤ 1000000) (hw : OWide l) :
    Calls Tryd.prog 34 #[.slice A l.length c] w (ClonePost (normL l) w) := by
  have hat := Offs.at_ h
  have HA := hide h
  have HWD := hide hw
  have HLEN : Hid (∀ k, k ≤ l.length → (nrm l k).length ≤ l.length) := hide (fun k hk => nrm_len hw k hk)
  have HZ := hide (nrm_zero l)
  have K1 : Hid (∀ (x y : Int), ∀ u ∈ [Value.int .u32 x, .int .i64 y], u.oneCell' = true) := hide (fun x y u hu => by simp at hu; rcases hu with rfl | rfl <;> rfl)
  clear h hw
  go_enter Tryd.func34, Tryd.ntmps34
  go_wp2_with fail
  go_loopw [3, 4] (fun uv iv wr => ∃ (k : Nat) (vv : Value), k ≤ l.length ∧ iv = .int .i64 k ∧ vv = uv ∧ wr.ownsRow w.heap.size 67 2 vv (nrm l k).length (cells2 offV (nrm l k)) ∧ Below w.heap.size w wr) (fun _ iv _ => l.length - (intOf iv).toNat)
  case atStart => exact ⟨0, _, Nat.zero_le _, rfl, rfl, by rw [HZ.out]; exact World.ownsRow_nil _ _ _ _, Below.refl _ _⟩
  case round =>
    obtain ⟨k, vv, hk, rfl, rfl, hown, hb⟩ := hrel
    have HO := hide hown
    have HB := hide hb
    clear hown hb
    by_cases hlt : k < l.length
    · obtain ⟨b, o, rfl, hbB, hcc⟩ := hat (by omega)
      obtain ⟨x, hx⟩ : ∃ x, l[k]? = some x := ⟨l[k], List.getElem?_eq_getElem hlt⟩
      obtain ⟨hc0', hc1'⟩ := hcc k x hx
      have HD : Hid (∀ W, Below w.heap.size w W → W.cell? ⟨b, o + k * 2, none⟩ = some (.int .u32 (x.1 : Int)) ∧ W.cell? ⟨b, o + k * 2 + 1, none⟩ = some (.int .i64 x.2)) := hide (fun W hW => ⟨(hW.cell (p := ⟨b, o + k * 2, none⟩) hbB).trans hc0', (hW.cell (p := ⟨b, o + k * 2 + 1, none⟩) hbB).trans hc1'⟩)
      obtain ⟨d0, d1⟩ := HD.out wr HB.out
      have HSK := hide (fun hq => nrm_skip (l := l) hx hq)
      have HIN := hide (fun hq => nrm_ins (l := l) hx hq)
      have HID := hide (idle_at hx)
      have hki : (k : Int) < (l.length : Int) := by omega
      have HCL := hide (refidle_any (some ⟨b, o, none⟩) c l (k : Int) wr (HA.out.up HB.out) hl HWD.out)
      rw [HID.out] at HCL
      have HKO : Hid (keepO l k x = (decide (1 ≤ x.2) && !idleN l k x)) := hide rfl
      have HLK := HLEN.out k hk
      have HST := hide (nrm_strict HWD.out k).1
      clear hc0' hc1' hcc hat hx
      obtain ⟨xg, xc⟩ := x
      simp only at d0 d1 HCL HKO HD
      generalize idleN l k (xg, xc) = q at *
      by_cases h1 : xc < 1
      · have HN : Hid (nrm l (k + 1) = nrm l k) := hide (HSK.out (by rw [HKO.out]; simp; omega))
        go_wp2_with fail
        go_roundw
        case rel =>
          refine ⟨k + 1, vv, by omega, by go_num, rfl, ?_, HB.out⟩
          rw [HN.out]
          exact HO.out
        case measure => simp [intOf]; omega
      · have d9 : decide (xc < 1) = false := decide_eq_false h1
        cases q
        · have HN : Hid (nrm l (k + 1) = insO (xg, xc) (nrm l k)) := hide (HIN.out (by rw [HKO.out]; simp; omega))
          generalize nrm l k = out at *
          obtain ⟨A0, c0, rfl, _⟩ := own_sh HO.out
          go_wp2_with fail
          refine (HCL.out).mono ?_
          rintro e w3 ⟨rfl, hb3⟩
          have HB3 : Hid (Below w.heap.size w w3) := hide (HB.out.trans (hb3.mono HB.out.size))
          have HO3 : Hid (w3.ownsRow w.heap.size 67 2 (.slice A0 out.length c0) out.length (cells2 offV out)) := hide (own_below HO.out hb3 (Nat.le_refl _))
          clear d0 d1 hb3
          go_wp2_with fail
          obtain ⟨wo, rfl⟩ : ∃ wo : World, wo = wr := ⟨_, rfl⟩
          go_loopw [5] (fun tv wq => ∃ t : Nat, t ≤ out.length ∧ tv = .int .i64 t ∧ (∀ (j : Nat) b, t ≤ j → out[j]? = some b → xg < b.1) ∧ wq.ownsRow w.heap.size 67 2 (.slice A0 out.length c0) out.length (cells2 offV out) ∧ Below w.heap.size w wq) (fun tv _ => (intOf tv).toNat)
          case atStart => exact ⟨out.length, Nat.le_refl _, rfl, (fun j b hj hb => by rw [List.getElem?_eq_none hj] at hb; cases hb), HO3.out, HB3.out⟩
          case round =>
            obtain ⟨t, ht, rfl, hgt, hoq, hbq⟩ := hrel
            have HGT := hide hgt
            have HOQ := hide hoq
            have HBQ := hide hbq
            clear hgt hoq hbq
            obtain ⟨d0, d1⟩ := HD.out wr HBQ.out
            have htn : (0 : Int) ≤ (t : Int) := by omega
            have hend : (t = 0 ∨ ∃ s b, t = s + 1 ∧ out[s]? = some b ∧ ¬ xg < b.1) ∨ (∃ s b, t = s + 1 ∧ out[s]? = some b ∧ xg < b.1) := by
              cases t with
              | zero => exact .inl (.inl rfl)
              | succ s =>
                have hs : out[s]? = some out[s] := List.getElem?_eq_getElem (by omega)
                by_cases hx : xg < out[s].1
                · exact .inr ⟨s, _, rfl, hs, hx⟩
                · exact .inl (.inr ⟨s, _, rfl, hs, hx⟩)
            rcases hend with hend | ⟨s, bs, rfl, hs, hlo⟩
            · have HPOS : Hid (insO (xg, xc) out = out.take t ++ (xg, xc) :: out.drop t) := hide (ins_at (xg, xc) out t HST.out ht HGT.out (fun s b hts hb => by
                rcases hend with h | ⟨s', b', h, h2, h3⟩
                · omega
                · obtain rfl : s = s' := by omega
                  rw [h2] at hb
                  injection hb with hb
                  rw [← hb]
                  exact h3))
              have HTL := hide ht
              rcases hend with rfl | ⟨s, bs, rfl, hs, hlo⟩
              · clear ht
                go_wp2_with fail
                go_quiet (fail)
                have K2 : Hid (out.length + 1 ≤ maxLen) := hide (by unfold maxLen; omega)
                have K3 : Hid ((out.length + 1) * 16 ≤ 140737488355328) := hide (by omega)
                clear d0 d1
                go_upto_region 9 with fail

                have HOQ5 := hide (fun q => own_drewN HOQ.out q)
                have HBQ5 := hide (fun q => below_drewN HBQ.out q)
                obtain ⟨wz, hwz⟩ : ∃ wz : Nat → World, wz = fun q => wr.drewN q := ⟨_, rfl⟩
                have HDZ := hide (fun q => HD.out (wr.drewN q) (below_drewN HBQ.out q))
                obtain ⟨d0, d1⟩ := HD.out wr HBQ.out
                clear hwz
                go_wp2_with (at_builtin; refine wpList_app rfl (.tmp 44) (.tmp 49) 22 rfl w.heap.size (.agg #[.int .u32 0, .int .i64 0]) 2 16 infoO Tryd.underlying22 rfl (by decide) _ _ _ rfl (HOQ5.out _) 1 1 rfl rfl (K1.out _ _) K2.out K3.out (HBQ5.out _).size ?_; intro v4 w4 hown4 hg4 hlt4 _; obtain ⟨g4, c4, hv4, hg4b, _⟩ := hown4.form (by omega); subst hv4; have HB4 : Hid (Below w.heap.size w w4) := hide ((HBQ5.out _).grown hg4 (HBQ5.out _).size (fun j hj => ((HOQ5.out 0).lt j hj).1)); have HO4 := hide hown4; have HGB := hide hg4b; clear hown4 hg4 hlt4 hg4b d0 d1)
                obtain ⟨wp, rfl⟩ : ∃ wp : World, wp = wr := ⟨_, rfl⟩
                go_loopw [6] (fun qv wr => ∃ (q : Nat) (r : List Offer), 0 ≤ q ∧ q ≤ out.length ∧ qv = .int .i64 q ∧ Gap out r q ∧ wr.ownsRow w.heap.size 67 2 (.slice (some ⟨g4, 0, none⟩) (out.length + 1) c4) (out.length + 1) (cells2 offV r) ∧ Below w.heap.size w wr) (fun qv _ => (intOf qv).toNat)
                case atStart => exact ⟨out.length, out ++ [(xg, xc)], HTL.out, Nat.le_refl _, by first | rfl | go_num, gap_start _ _, by rw [cells2_append]; exact HO4.out, HB4.out⟩
                case round =>
                  obtain ⟨q, r, htq, hq, rfl, hgap, hor, hbr⟩ := hrel
                  have HGAP := hide hgap
                  have HOR := hide hor
                  have HBR := hide hbr
                  have hrl := hgap.1
                  clear hgap hor hbr
                  by_cases hqt : 0 < q
                  · obtain ⟨p, rfl⟩ : ∃ p, q = p + 1 := ⟨q - 1, by omega⟩
                    have hpo : p < out.length := by omega
                    have hrp : r[p]? = some out[p] := by rw [HGAP.out.2.1 p (by omega), List.getElem?_eq_getElem hpo]
                    have hgap' := gap_step HGAP.out hq (List.getElem?_eq_getElem hpo)
                    generalize out[p] = y at *
                    obtain ⟨yg, yc⟩ := y
                    have hpr : p + 1 < r.length := by omega
                    obtain ⟨y0, y1⟩ := cells2_at (f := offV) r p _ hrp
                    obtain ⟨z0, z1⟩ := cells2_at (f := offV) r (p + 1) _ (List.getElem?_eq_getElem hpr)
                    have c0 : wr.cell? ⟨g4, p * 2, none⟩ = some (.int .u32 (yg : Int)) := (HOR.out.cellAt (p * 2) (by omega)).trans y0
                    have c1 : wr.cell? ⟨g4, p * 2 + 1, none⟩ = some (.int .i64 yc) := (HOR.out.cellAt (p * 2 + 1) (by omega)).trans y1
                    have e0 : wr.cell? ⟨g4, (p + 1) * 2, none⟩ = some (offV r[p + 1]).1 := (HOR.out.cellAt ((p + 1) * 2) (by omega)).trans z0
                    have e1 : wr.cell? ⟨g4, (p + 1) * 2 + 1, none⟩ = some (offV r[p + 1]).2 := (HOR.out.cellAt ((p + 1) * 2 + 1) (by omega)).trans z1
                    have f0 := HOR.out.frozenAt ((p + 1) * 2)
                    have f1 := HOR.out.frozenAt ((p + 1) * 2 + 1)
                    have hs1 := HOR.out.stored ((p + 1) * 2) (.int .u32 (yg : Int))
                    have hs2 := hs1.1.stored ((p + 1) * 2 + 1) (.int .i64 yc)
                    have hset := cells2_set (f := offV) r (p + 1) (yg, yc) hpr
                    have HO6 : Hid (((wr.setCell ⟨g4, (p + 1) * 2, none⟩ (.int .u32 (yg : Int))).setCell ⟨g4, (p + 1) * 2 + 1, none⟩ (.int .i64 yc)).ownsRow w.heap.size 67 2 (.slice (some ⟨g4, 0, none⟩) (out.length + 1) c4) (out.length + 1) (cells2 offV (r.set (p + 1) (yg, yc)))) := hide (by
                      rw [← hset]
                      exact hs2.1)
                    have HB6 : Hid (Below w.heap.size w ((wr.setCell ⟨g4, (p + 1) * 2, none⟩ (.int .u32 (yg : Int))).setCell ⟨g4, (p + 1) * 2 + 1, none⟩ (.int .i64 yc))) := hide ((HBR.out.setCell HGB.out _).setCell HGB.out _)
                    have HGP := hide hgap'
                    generalize (offV r[p + 1]).1 = v0 at e0
                    generalize (offV r[p + 1]).2 = v1 at e1
                    have hti : ((0 : Nat) : Int) < (p : Int) + 1 := by omega
                    have hpi : (p : Int) < (out.length : Int) := by omega
                    clear hs1 hs2 hset y0 y1 z0 z1 hrp hgap' hpo
                    go_upto_region 12 with fail
                    generalize (wr.setCell ⟨g4, (p + 1) * 2, none⟩ (.int .u32 (yg : Int))).setCell ⟨g4, (p + 1) * 2 + 1, none⟩ (.int .i64 yc) = w6 at *
                    clear c0 c1 e0 e1 f0 f1
                    go_wp2_with fail
                    go_roundw
                    case rel => exact ⟨p, _, by omega, by omega, rfl, HGP.out, HO6.out, HB6.out⟩
                    case measure => simp [intOf]
                  · obtain rfl : q = 0 := by omega
                    have HTN : Hid (nrm l (k + 1) = r.set (0) (xg, xc)) := hide (by rw [HN.out, HPOS.out, gap_end HGAP.out HTL.out])
                    have hpr : 0 < r.length := by omega
                    obtain ⟨d0, d1⟩ := HD.out wr HBR.out
                    obtain ⟨z0, z1⟩ := cells2_at (f := offV) r (0) _ (List.getElem?_eq_getElem hpr)
                    have e0 : wr.cell? ⟨g4, 0, none⟩ = some (offV r[0]).1 := (HOR.out.cellAt (0) (by omega)).trans z0
                    have e1 : wr.cell? ⟨g4, 1, none⟩ = some (offV r[0]).2 := (HOR.out.cellAt (1) (by omega)).trans z1
                    have f0 := HOR.out.frozenAt (0)
                    have f1 := HOR.out.frozenAt (1)
                    have hs1 := HOR.out.stored (0) (.int .u32 (xg : Int))
                    have hs2 := hs1.1.stored (1) (.int .i64 xc)
                    have hset := cells2_set (f := offV) r (0) (xg, xc) hpr
                    have HO6 : Hid (((wr.setCell ⟨g4, 0, none⟩ (.int .u32 (xg : Int))).setCell ⟨g4, 1, none⟩ (.int .i64 xc)).ownsRow w.heap.size 67 2 (.slice (some ⟨g4, 0, none⟩) (out.length + 1) c4) (out.length + 1) (cells2 offV (r.set (0) (xg, xc)))) := hide (by
                      rw [← hset]
                      exact hs2.1)
                    have HB6 : Hid (Below w.heap.size w ((wr.setCell ⟨g4, 0, none⟩ (.int .u32 (xg : Int))).setCell ⟨g4, 1, none⟩ (.int .i64 xc))) := hide ((HBR.out.setCell HGB.out _).setCell HGB.out _)
                    generalize (offV r[0]).1 = v0 at e0
                    generalize (offV r[0]).2 = v1 at e1
                    have hti : ((0 : Nat) : Int) ≤ (out.length : Int) := by omega
                    clear hs1 hs2 hset z0 z1 hqt htq
                    go_upto_region 4 with fail
                    generalize (wr.setCell ⟨g4, 0, none⟩ (.int .u32 (xg : Int))).setCell ⟨g4, 1, none⟩ (.int .i64 xc) = w6 at *
                    clear e0 e1 f0 f1 d0 d1
                    go_wp2_with fail
                    go_roundw
                    case rel =>
                      refine ⟨k + 1, .slice (some ⟨g4, 0, none⟩) (out.length + 1) c4, by omega, by go_num, rfl, ?_, HB6.out⟩
                      rw [HTN.out, List.length_set, hrl]
                      exact HO6.out
                    case measure => simp [intOf]; omega
              · obtain ⟨b1, b2⟩ := bs
                obtain ⟨g0, rfl⟩ : ∃ g0, A0 = some ⟨g0, 0, none⟩ := by
                  obtain ⟨g, _, e, _⟩ := HOQ.out.form (by omega)
                  injection e with e
                  exact ⟨g, e⟩
                have y0 : wr.cell? ⟨g0, s * 2, none⟩ = some (.int .u32 (b1 : Int)) := (HOQ.out.cellAt (s * 2) (by omega)).trans (cells2_at (f := offV) out s _ hs).1
                have hsi : (s : Int) < (out.length : Int) := by omega
                have hw2 : IntKind.i64.wrap (s : Int) = s := Go.IntWalk.i64_in _ (by omega)
                have hcmp : ¬ (xg : Int) < (b1 : Int) := by simp only at hlo; omega
                clear ht hs hlo htn
                go_wp2_with fail
                go_quiet (fail)
                have K2 : Hid (out.length + 1 ≤ maxLen) := hide (by unfold maxLen; omega)
                have K3 : Hid ((out.length + 1) * 16 ≤ 140737488355328) := hide (by omega)
                clear d0 d1
                go_upto_region 9 with fail
                clear hcmp
                have HOQ5 := hide (fun q => own_drewN HOQ.out q)
                have HBQ5 := hide (fun q => below_drewN HBQ.out q)
                obtain ⟨wz, hwz⟩ : ∃ wz : Nat → World, wz = fun q => wr.drewN q := ⟨_, rfl⟩
                have HDZ := hide (fun q => HD.out (wr.drewN q) (below_drewN HBQ.out q))
                obtain ⟨d0, d1⟩ := HD.out wr HBQ.out
                clear hwz
                go_wp2_with (at_builtin; refine wpList_app rfl (.tmp 44) (.tmp 49) 22 rfl w.heap.size (.agg #[.int .u32 0, .int .i64 0]) 2 16 infoO Tryd.underlying22 rfl (by decide) _ _ _ rfl (HOQ5.out _) 1 1 rfl rfl (K1.out _ _) K2.out K3.out (HBQ5.out _).size ?_; intro v4 w4 hown4 hg4 hlt4 _; obtain ⟨g4, c4, hv4, hg4b, _⟩ := hown4.form (by omega); subst hv4; have HB4 : Hid (Below w.heap.size w w4) := hide ((HBQ5.out _).grown hg4 (HBQ5.out _).size (fun j hj => ((HOQ5.out 0).lt j hj).1)); have HO4 := hide hown4; have HGB := hide hg4b; clear hown4 hg4 hlt4 hg4b d0 d1)
                obtain ⟨wp, rfl⟩ : ∃ wp : World, wp = wr := ⟨_, rfl⟩
                go_loopw [6] (fun qv wr => ∃ (q : Nat) (r : List Offer), (s + 1) ≤ q ∧ q ≤ out.length ∧ qv = .int .i64 q ∧ Gap out r q ∧ wr.ownsRow w.heap.size 67 2 (.slice (some ⟨g4, 0, none⟩) (out.length + 1) c4) (out.length + 1) (cells2 offV r) ∧ Below w.heap.size w wr) (fun qv _ => (intOf qv).toNat)
                case atStart => exact ⟨out.length, out ++ [(xg, xc)], HTL.out, Nat.le_refl _, by first | rfl | go_num, gap_start _ _, by rw [cells2_append]; exact HO4.out, HB4.out⟩
                case round =>
                  obtain ⟨q, r, htq, hq, rfl, hgap, hor, hbr⟩ := hrel
                  have HGAP := hide hgap
                  have HOR := hide hor
                  have HBR := hide hbr
                  have hrl := hgap.1
                  clear hgap hor hbr
                  by_cases hqt : (s + 1) < q
                  · obtain ⟨p, rfl⟩ : ∃ p, q = p + 1 := ⟨q - 1, by omega⟩
                    have hpo : p < out.length := by omega
                    have hrp : r[p]? = some out[p] := by rw [HGAP.out.2.1 p (by omega), List.getElem?_eq_getElem hpo]
                    have hgap' := gap_step HGAP.out hq (List.getElem?_eq_getElem hpo)
                    generalize out[p] = y at *
                    obtain ⟨yg, yc⟩ := y
                    have hpr : p + 1 < r.length := by omega
                    obtain ⟨y0, y1⟩ := cells2_at (f := offV) r p _ hrp
                    obtain ⟨z0, z1⟩ := cells2_at (f := offV) r (p + 1) _ (List.getElem?_eq_getElem hpr)
                    have c0 : wr.cell? ⟨g4, p * 2, none⟩ = some (.int .u32 (yg : Int)) := (HOR.out.cellAt (p * 2) (by omega)).trans y0
                    have c1 : wr.cell? ⟨g4, p * 2 + 1, none⟩ = some (.int .i64 yc) := (HOR.out.cellAt (p * 2 + 1) (by omega)).trans y1
                    have e0 : wr.cell? ⟨g4, (p + 1) * 2, none⟩ = some (offV r[p + 1]).1 := (HOR.out.cellAt ((p + 1) * 2) (by omega)).trans z0
                    have e1 : wr.cell? ⟨g4, (p + 1) * 2 + 1, none⟩ = some (offV r[p + 1]).2 := (HOR.out.cellAt ((p + 1) * 2 + 1) (by omega)).trans z1
                    have f0 := HOR.out.frozenAt ((p + 1) * 2)
                    have f1 := HOR.out.frozenAt ((p + 1) * 2 + 1)
                    have hs1 := HOR.out.stored ((p + 1) * 2) (.int .u32 (yg : Int))
                    have hs2 := hs1.1.stored ((p + 1) * 2 + 1) (.int .i64 yc)
                    have hset := cells2_set (f := offV) r (p + 1) (yg, yc) hpr
                    have HO6 : Hid (((wr.setCell ⟨g4, (p + 1) * 2, none⟩ (.int .u32 (yg : Int))).setCell ⟨g4, (p + 1) * 2 + 1, none⟩ (.int .i64 yc)).ownsRow w.heap.size 67 2 (.slice (some ⟨g4, 0, none⟩) (out.length + 1) c4) (out.length + 1) (cells2 offV (r.set (p + 1) (yg, yc)))) := hide (by
                      rw [← hset]
                      exact hs2.1)
                    have HB6 : Hid (Below w.heap.size w ((wr.setCell ⟨g4, (p + 1) * 2, none⟩ (.int .u32 (yg : Int))).setCell ⟨g4, (p + 1) * 2 + 1, none⟩ (.int .i64 yc))) := hide ((HBR.out.setCell HGB.out _).setCell HGB.out _)
                    have HGP := hide hgap'
                    generalize (offV r[p + 1]).1 = v0 at e0
                    generalize (offV r[p + 1]).2 = v1 at e1
                    have hti : (((s + 1) : Nat) : Int) < (p : Int) + 1 := by omega
                    have hpi : (p : Int) < (out.length : Int) := by omega
                    clear hs1 hs2 hset y0 y1 z0 z1 hrp hgap' hpo
                    go_upto_region 12 with fail
                    generalize (wr.setCell ⟨g4, (p + 1) * 2, none⟩ (.int .u32 (yg : Int))).setCell ⟨g4, (p + 1) * 2 + 1, none⟩ (.int .i64 yc) = w6 at *
                    clear c0 c1 e0 e1 f0 f1
                    go_wp2_with fail
                    go_roundw
                    case rel => exact ⟨p, _, by omega, by omega, rfl, HGP.out, HO6.out, HB6.out⟩
                    case measure => simp [intOf]
                  · obtain rfl : q = (s + 1) := by omega
                    have HTN : Hid (nrm l (k + 1) = r.set ((s + 1)) (xg, xc)) := hide (by rw [HN.out, HPOS.out, gap_end HGAP.out HTL.out])
                    have hpr : (s + 1) < r.length := by omega
                    obtain ⟨d0, d1⟩ := HD.out wr HBR.out
                    obtain ⟨z0, z1⟩ := cells2_at (f := offV) r ((s + 1)) _ (List.getElem?_eq_getElem hpr)
                    have e0 : wr.cell? ⟨g4, (s + 1) * 2, none⟩ = some (offV r[(s + 1)]).1 := (HOR.out.cellAt ((s + 1) * 2) (by omega)).trans z0
                    have e1 : wr.cell? ⟨g4, (s + 1) * 2 + 1, none⟩ = some (offV r[(s + 1)]).2 := (HOR.out.cellAt ((s + 1) * 2 + 1) (by omega)).trans z1
                    have f0 := HOR.out.frozenAt ((s + 1) * 2)
                    have f1 := HOR.out.frozenAt ((s + 1) * 2 + 1)
                    have hs1 := HOR.out.stored ((s + 1) * 2) (.int .u32 (xg : Int))
                    have hs2 := hs1.1.stored ((s + 1) * 2 + 1) (.int .i64 xc)
                    have hset := cells2_set (f := offV) r ((s + 1)) (xg, xc) hpr
                    have HO6 : Hid (((wr.setCell ⟨g4, (s + 1) * 2, none⟩ (.int .u32 (xg : Int))).setCell ⟨g4, (s + 1) * 2 + 1, none⟩ (.int .i64 xc)).ownsRow w.heap.size 67 2 (.slice (some ⟨g4, 0, none⟩) (out.length + 1) c4) (out.length + 1) (cells2 offV (r.set ((s + 1)) (xg, xc)))) := hide (by
                      rw [← hset]
                      exact hs2.1)
                    have HB6 : Hid (Below w.heap.size w ((wr.setCell ⟨g4, (s + 1) * 2, none⟩ (.int .u32 (xg : Int))).setCell ⟨g4, (s + 1) * 2 + 1, none⟩ (.int .i64 xc))) := hide ((HBR.out.setCell HGB.out _).setCell HGB.out _)
                    generalize (offV r[(s + 1)]).1 = v0 at e0
                    generalize (offV r[(s + 1)]).2 = v1 at e1
                    have hti : (((s + 1) : Nat) : Int) ≤ (out.length : Int) := by omega
                    clear hs1 hs2 hset z0 z1 hqt htq
                    go_upto_region 4 with fail
                    generalize (wr.setCell ⟨g4, (s + 1) * 2, none⟩ (.int .u32 (xg : Int))).setCell ⟨g4, (s + 1) * 2 + 1, none⟩ (.int .i64 xc) = w6 at *
                    clear e0 e1 f0 f1 d0 d1
                    go_wp2_with fail
                    go_roundw
                    case rel =>
                      refine ⟨k + 1, .slice (some ⟨g4, 0, none⟩) (out.length + 1) c4, by omega, by go_num, rfl, ?_, HB6.out⟩
                      rw [HTN.out, List.length_set, hrl]
                      exact HO6.out
                    case measure => simp [intOf]; omega
            · obtain ⟨b1, b2⟩ := bs
              obtain ⟨g0, rfl⟩ : ∃ g0, A0 = some ⟨g0, 0, none⟩ := by
                obtain ⟨g, _, e, _⟩ := HOQ.out.form (by omega)
                injection e with e
                exact ⟨g, e⟩
              have y0 : wr.cell? ⟨g0, s * 2, none⟩ = some (.int .u32 (b1 : Int)) := (HOQ.out.cellAt (s * 2) (by omega)).trans (cells2_at (f := offV) out s _ hs).1
              have hsi : (s : Int) < (out.length : Int) := by omega
              have hw2 : IntKind.i64.wrap (s : Int) = s := Go.IntWalk.i64_in _ (by omega)
              have hcmp : (xg : Int) < (b1 : Int) := by simp only at hlo; omega
              have HS := hide hs
              have HLO := hide hlo
              clear ht hs hlo htn
              go_wp2_with fail
              go_quiet (fail)
              go_wp2_with fail
              go_roundw
              case rel =>
                refine ⟨s, by omega, rfl, fun j b hj hb => ?_, own_drewN HOQ.out _, below_drewN HBQ.out _⟩
                rcases Nat.lt_or_ge s j with h | h
                · exact HGT.out j b h hb
                · obtain rfl : j = s := by omega
                  have e := HS.out
                  rw [hb] at e
                  injection e with e
                  rw [e]
                  exact HLO.out
              case measure => simp [intOf]
        · have HN : Hid (nrm l (k + 1) = nrm l k) := hide (HSK.out (by rw [HKO.out]; simp))
          go_wp2_with fail
          refine (HCL.out).mono ?_
          rintro e w3 ⟨rfl, hb3⟩
          have HB3 : Hid (Below w.heap.size w w3) := hide (HB.out.trans (hb3.mono HB.out.size))
          have HO3 : Hid (w3.ownsRow w.heap.size 67 2 vv (nrm l k).length (cells2 offV (nrm l k))) := hide (own_below HO.out hb3 (Nat.le_refl _))
          clear d0 d1 hb3
          go_wp2_with fail
          go_roundw
          case rel =>
            refine ⟨k + 1, vv, by omega, by go_num, rfl, ?_, HB3.out⟩
            rw [HN.out]
            exact HO3.out
          case measure => simp [intOf]; omega
    · obtain rfl : k = l.length := by omega
      have HO2 := HO.out
      rw [nrm_all] at HO2
      obtain ⟨A2, c2, rfl, _⟩ := own_sh HO2
      have HO3 := hide HO2
      clear HO2
      go_wp2_with fail
      go_ret
      exact ⟨A2, c2, rfl, HO3.out, HB.out⟩
set_option maxRecDepth 100000 in
set_option maxHeartbeats 2000000 in
theorem refsame8_any (A : Option Addr) (c : Nat) (a : List Offer) (A' : Option Addr) (c' : Nat) (b : List Offer) (w : World) (h : Offs w w.heap.size A a) (h' : Offs w w.heap.size A' b) (hla : a.length ≤ 1000000) (hlb : b.length ≤ 1000000) (hwa : OWide a) (hwb : OWide b) :
    Calls Tryd.prog 38 #[.slice A a.length c, .slice A' b.length c'] w (ValPost (.bool (decide (normL a = normL b))) w) := by
  have H1 := hide (refnormal_any A c a w h hla hwa)
  have H2 : Hid (∀ W, Below w.heap.size w W → Calls Tryd.prog 34 #[.slice A' b.length c'] W (ClonePost (normL b) W)) := hide (fun W hW => refnormal_any A' c' b W (h'.up hW) hlb hwb)
  have HL : Hid ((normL a).length ≤ 1000000) := hide (Nat.le_trans (norm_len a hwa) hla)
  clear h h' hla hlb hwa hwb
  generalize normL a = na at *
  generalize normL b = nb at *
  go_enter Tryd.func38, Tryd.ntmps38
  go_wp2_with fail
  refine (H1.out).mono ?_
  rintro e w1 ⟨A1, c1, rfl, hown1, hb1⟩
  have HO1 := hide hown1
  have HB1 := hide hb1
  clear hown1 hb1
  go_wp2_with fail
  refine (H2.out w1 HB1.out).mono ?_
  rintro e w2 ⟨A2, c2, rfl, hown2, hb2⟩
  have HE := hide (sameOffers_any A1 c1 na A2 c2 nb w2 ((Two.of_own HO1.out rfl).up hb2) (Two.of_own hown2 rfl) HL.out)
  have HB2 : Hid (Below w.heap.size w w2) := hide (HB1.out.trans (hb2.mono HB1.out.size))
  clear hown2 hb2
  go_wp2_with fail
  refine (HE.out).mono ?_
  rintro e w3 ⟨rfl, hb3⟩
  have HB3 : Hid (Below w.heap.size w w3) := hide (HB2.out.trans (hb3.mono HB2.out.size))
  clear hb3
  go_wp2_with fail
  go_ret
  exact ⟨rfl, HB3.out⟩
end Go.Proofs.YtkiebjgpghajbaaDoor
