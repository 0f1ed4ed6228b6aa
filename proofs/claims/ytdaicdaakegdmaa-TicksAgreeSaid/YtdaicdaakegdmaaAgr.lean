/- The walk of TicksAgree. -/
import Derived.Test.YtdaicdaakegdmaaAgP
namespace Go.Proofs.Ytdaicdaakegdmaa
open Go.RowKit Go.Maps Go.Shelf
open Go.ChangeMaps Go.WideMaps

set_option maxRecDepth 100000 in
set_option maxHeartbeats 4000000 in
theorem agree_any (A : Option Addr) (n c : Nat) (list : List Du) (first last : Int) (w : World) (h : DuesW w A n list) :
    Calls Try.prog 3 #[.slice A n c, .int .i64 first, .int .i64 last] w (ValB (.bool true) w) := by
  have HKN := hide (fun W => known_any W)
  by_cases h1 : (n : Int) > 100
  · clear h
    go_enter Try.func3, Try.ntmps3
    go_wp2_with fail
    refine (HKN.out w).mono ?_
    rintro _ w1 ⟨rfl, hb⟩
    have HB := hide hb
    go_wp2_with fail
    go_ret
    exact ⟨rfl, HB.out⟩
  by_cases h2 : first < 0
  · clear h
    go_enter Try.func3, Try.ntmps3
    go_wp2_with fail
    refine (HKN.out w).mono ?_
    rintro _ w1 ⟨rfl, hb⟩
    have HB := hide hb
    go_wp2_with fail
    go_ret
    exact ⟨rfl, HB.out⟩
  by_cases h3 : first > last
  · clear h
    go_enter Try.func3, Try.ntmps3
    go_wp2_with fail
    refine (HKN.out w).mono ?_
    rintro _ w1 ⟨rfl, hb⟩
    have HB := hide hb
    go_wp2_with fail
    go_ret
    exact ⟨rfl, HB.out⟩
  by_cases h4 : last > 1099511627776
  · clear h
    go_enter Try.func3, Try.ntmps3
    go_wp2_with fail
    refine (HKN.out w).mono ?_
    rintro _ w1 ⟨rfl, hb⟩
    have HB := hide hb
    go_wp2_with fail
    go_ret
    exact ⟨rfl, HB.out⟩
  have HD := hide h
  have HN1 := hide (new_any 0 w)
  have HFI : Hid (0 ≤ first ∧ first ≤ last ∧ last ≤ 1099511627776 ∧ n ≤ 100) := hide (by omega)
  have e0 : ofC 0 [] = 0 := by decide
  have e1 : ofS 0 [] = [] := rfl
  clear h
  go_enter Try.func3, Try.ntmps3
  go_wp2_with fail
  refine (HN1.out).mono ?_
  rintro e w1 (⟨h, _⟩ | ⟨_, p, rfl, r, x, m, v, l, hc, hr, hb⟩)
  · exact absurd e0 h
  rw [e1] at hr
  have HC1 := hide hc
  have HR1 := hide hr
  have HB1 := hide hb
  have HN2 := hide (new_any 0 w1)
  clear hc hr hb
  go_wp2_with fail
  refine (HN2.out).mono ?_
  rintro e w2 (⟨h, _⟩ | ⟨_, p', rfl, r', x', m', v', l', hc, hr, hb⟩)
  · exact absurd e0 h
  rw [e1] at hr
  have HT := hide (Two.start HC1.out HR1.out HB1.out hc hr hb)
  have HLL : Hid (l.length ≤ 0 ∧ l'.length ≤ 0) := hide ⟨by rw [HR1.out.length]; exact Nat.le_refl _, by rw [hr.length]; exact Nat.le_refl _⟩
  clear hc hr hb e0 e1 h1 h2 h3 h4
  go_wp2_with fail
  go_loopw [11] (fun iv wr => ∃ (k : Nat) (v v' : Value) (l l' : List Du), k ≤ n ∧ iv = .int .i64 k ∧ Two w p r x m p' r' x' m' v v' 0 0 l l' (aS list k) (bS list k) wr ∧ l.length ≤ k ∧ l'.length ≤ k) (fun iv _ => n - (intOf iv).toNat)
  case atStart => exact ⟨0, v, v', l, l', Nat.zero_le _, rfl, HT.out, HLL.out⟩
  case round =>
    clear HLL HT
    obtain ⟨k, v, v', l, l', hk, rfl, ht, hl, hl'⟩ := hrel
    have HT := hide ht
    have HLL := hide (And.intro hl hl')
    by_cases hlt : k < n
    · obtain ⟨q, hnq⟩ : ∃ q, n = k + 1 + q := ⟨n - (k + 1), by omega⟩
      have HNQ := hide hnq
      have hki : (k : Int) < (n : Int) := by omega
      have hbs : list.length - 1 - k = q := by rw [HD.out.len]; omega
      have HBS := hide hbs
      have hdw := HD.out.below ht.bel
      obtain ⟨g, o, rfl, hg, hc0, _⟩ := hdw.at_ k (by omega)
      have hn100 := HFI.out.2.2.2
      have HSA := hide (set_any ht.ca ht.ra ht.bel.size k (gD list k).1 (by omega) (by omega))
      have HLA := hide (setS_len ht.ra 0 k (gD list k).1)
      have HLE := hide ht.ra.length
      have HLE' := hide ht.rb.length
      have hqz : (n : Int) ≤ 100 ∧ (k : Int) ≤ 100 := by omega
      have hq : (n : Int) - 1 - (k : Int) = (q : Int) := by omega
      have hqb : (q : Int) < (n : Int) := by omega
      clear ht hl hl' hdw hn100 hnq hbs
      go_wp2_with fail
      refine (HSA.out).mono ?_
      rintro _ w3 ⟨rfl, v3, l3, hc3, hr3, ho3, hg3⟩
      have HT3 := hide (HT.out.turn hc3 hr3 ho3 hg3)
      have HL3 : Hid (l3.length ≤ k + 1) := hide (by have := hr3.length; have := HLA.out; have := HLE.out; have := HLL.out.1; unfold aS at *; omega)
      have hdw3 := HD.out.below HT3.out.bel
      obtain ⟨g', o', hgo, hg', hd0, _⟩ := hdw3.at_ q (by have := HNQ.out; omega)
      injection hgo with hgo
      injection hgo with hgo1 hgo2 _
      subst hgo1 hgo2
      have HSB := hide (set_any HT3.out.cb HT3.out.rb HT3.out.bel.size q (gD list q).1 (by have := HFI.out.2.2.2; have := HNQ.out; omega) (by have := HFI.out.2.2.2; have := HLL.out.2; omega))
      have HLB := hide (setS_len HT3.out.rb 0 q (gD list q).1)
      clear hc3 hr3 ho3 hg3 hc0 hdw3 hg hg'
      go_wp2_with fail
      refine (HSB.out).mono ?_
      rintro _ w4 ⟨rfl, v4, l4, hc4, hr4, ho4, hg4⟩
      have HT4 := hide (HT3.out.comm.turn hc4 hr4 ho4 hg4).comm
      have HL4 : Hid (l4.length ≤ k + 1) := hide (by have := hr4.length; have := HLB.out; have := HLE'.out; have := HLL.out.2; omega)
      clear hc4 hr4 ho4 hg4 hd0
      go_wp2_with fail
      go_roundw
      case rel => exact ⟨k + 1, v3, v4, l3, l4, by omega, by go_num, by unfold bS; rw [HBS.out]; exact HT4.out, HL3.out, HL4.out⟩
      case measure => simp [intOf]; omega
    · obtain rfl : k = n := by omega
      have hra := ht.ra
      have hrb := ht.rb
      rw [← HD.out.len] at hra hrb
      have HAB := hide (ab_eq hra hrb)
      have HM : Hid (∀ d, d ∈ aS list k → ∃ i, i < list.length ∧ isT (gD list i).1 = true ∧ d = ((gD list i).1, (i : Int))) := hide (fun d hd => by
        obtain ⟨i, h1, h2⟩ := (aS_mem list k d).1 hd
        exact ⟨i, by rw [HD.out.len]; exact h1, h2⟩)
      have HUP := hide ht.ra.up
      rw [HD.out.len] at HAB
      rw [← HAB.out] at ht
      have HSN : Hid ((aS list k).length ≤ 100) := hide (by have := ht.ra.length; have := HFI.out.2.2.2; omega)
      clear hra hrb HAB HT
      generalize aS list k = S at ht HM HUP HSN
      have HT := hide ht
      have HU1 := hide (upto_any (t := last) ht.ca ht.ra ht.bel.size (by have := HFI.out; unfold isT; simp; omega) (by have := HFI.out; omega))
      have HFT := hide (CalF.lt ht.cb)
      clear ht hl hl' HLL
      go_wp2_with fail
      refine (HU1.out).mono ?_
      rintro _ w3 ⟨vx, v3, l3, rfl, hox, hc3, hr3, ho3, hg3, hx3⟩
      have HT3 := hide (HT.out.turn hc3 hr3 ho3 hg3)
      have HOX := hide hox
      have HU2 := hide (upto_any (t := first) HT3.out.cb HT3.out.rb HT3.out.bel.size (by have := HFI.out; unfold isT; simp; omega) (by have := HFI.out; omega))
      have HZ3 := hide ho3.size
      clear hox hc3 hr3 ho3 hg3 hx3
      go_wp2_with fail
      refine (HU2.out).mono ?_
      rintro _ w4 ⟨vy, v4, l4, rfl, hoy, hc4, hr4, ho4, hg4, hx4⟩
      have HT4 := hide (HT3.out.comm.turn hc4 hr4 ho4 hg4).comm
      have HOX4 := hide (own_only HOX.out ho4 (fun g hg hf => by
        have h1 := (HOX.out.lt g hg).1
        have h2 := HFT.out g (.inl hf)
        omega))
      have HG4 := hide hg4
      have HX4 := hide hx4
      have HOY := hide hoy
      have HZ4 := hide ho4.size
      have HU3 := hide (upto_any (t := last) HT4.out.cb HT4.out.rb HT4.out.bel.size (by have := HFI.out; unfold isT; simp; omega) (by have := HFI.out; omega))
      clear hoy hc4 hr4 ho4 hg4 hx4
      go_wp2_with fail
      refine (HU3.out).mono ?_
      rintro _ w5 ⟨vz, v5, l5, rfl, hoz, hc5, hr5, ho5, hg5, hx5⟩
      have HT5 := hide (HT4.out.comm.turn hc5 hr5 ho5 hg5).comm
      have HOX5 := hide (own_only HOX4.out ho5 (fun g hg hf => by
        have h1 := HOX.out.lt g hg
        rcases hf with rfl | rfl | rfl | e
        · have := HFT.out _ (.inl (.inl rfl)); omega
        · have := HFT.out _ (.inl (.inr (.inl rfl))); omega
        · have := HFT.out _ (.inl (.inr (.inr (.inl rfl)))); omega
        · rcases HG4.out g e with e | e
          · have := HFT.out _ (.inl (.inr (.inr (.inr e)))); omega
          · omega))
      have HOY5 := hide (own_only HOY.out ho5 (fun g hg hf => by
        have h1 := HOY.out.lt g hg
        have h2 := HZ3.out
        rcases hf with rfl | rfl | rfl | e
        · have := HFT.out _ (.inl (.inl rfl)); omega
        · have := HFT.out _ (.inl (.inr (.inl rfl))); omega
        · have := HFT.out _ (.inl (.inr (.inr (.inl rfl)))); omega
        · exact HX4.out g hg e))
      have HOZ := hide hoz
      clear hoz hc5 hr5 ho5 hg5 hx5 HOX HOX4 HOY HX4 HG4 HU1 HU2 HU3 HT3 HT4 HT
      obtain ⟨XA, xc, rfl⟩ := own_shape HOX5.out
      obtain ⟨YA, yc, rfl⟩ := own_shape HOY5.out
      obtain ⟨ZA, zc, rfl⟩ := own_shape HOZ.out
      have htt := take_two (S := S) HFI.out.2.1
      have HTA := hide (fun i => told_at (list := list) (S := S) (last := last) HM.out (k := i))
      have HTU := hide (fun i => told_up HUP.out last (k := i))
      have HNL := hide (fun d S' => next_late (S := S) (last := last) (d := d) (S' := S'))
      have HLX : Hid ((S.takeWhile (fun d => decide (d.1 ≤ last))).length ≤ 100) := hide (Nat.le_trans (List.takeWhile_sublist _).length_le HSN.out)
      have hl35 : l5.length = l3.length := by rw [HT5.out.rb.length, HT5.out.ra.length, htt.2]
      have HCA := hide HT5.out.ca
      have HRA := hide HT5.out.ra
      have HB5 := hide HT5.out.bel
      have HL3 := hide (len_any HT5.out.ca)
      have HL5 := hide (len_any HT5.out.cb)
      rw [hl35] at HL5
      have HXE := hide htt.1
      clear htt hl35 HT5 HM HUP HSN HFT HZ3 HZ4
      generalize S.takeWhile (fun d => decide (d.1 ≤ last)) = X at *
      generalize S.dropWhile (fun d => decide (d.1 ≤ last)) = D at *
      generalize (S.dropWhile (fun d => decide (d.1 ≤ first))).takeWhile (fun d => decide (d.1 ≤ last)) = Z at *
      generalize S.takeWhile (fun d => decide (d.1 ≤ first)) = Y at *
      have HRX := hide (Reads.of_own HOX5.out)
      have HRY := hide (Reads.of_own HOY5.out)
      have HRZ := hide (Reads.of_own HOZ.out)
      clear HOX5 HOY5 HOZ
      obtain ⟨nx, hnx⟩ : ∃ nx, X.length = nx := ⟨_, rfl⟩
      obtain ⟨ny, hny⟩ : ∃ ny, Y.length = ny := ⟨_, rfl⟩
      obtain ⟨nz, hnz⟩ : ∃ nz, Z.length = nz := ⟨_, rfl⟩
      have hxyz : nx = ny + nz := by rw [← hnx, HXE.out, List.length_append, hny, hnz]
      have hbb : (ny : Int) ≤ 100 ∧ (nz : Int) ≤ 100 ∧ (nx : Int) ≤ 100 := by have := HLX.out; omega
      have hne : ((nx : Int) != (ny : Int) + (nz : Int)) = false := by rw [hxyz]; simp
      have HNX := hide hnx
      have HNS := hide (And.intro hxyz hbb)
      have HNY := hide hny
      have HNZ := hide hnz
      rw [hnx] at HRX
      rw [hny] at HRY
      rw [hnz] at HRZ
      have HG1 := hide (flatD_one Y)
      have HG2 := hide (flatD_one Z)
      have HG3 : Hid (0 + ny ≤ maxLen ∧ ny + nz ≤ maxLen ∧ (0 + ny) * 16 ≤ 140737488355328 ∧ (ny + nz) * 16 ≤ 140737488355328) := hide (by unfold maxLen; omega)
      simp only [hnx, hny, hnz]
      clear hnx hny hnz hxyz
      go_wp2_with fail
      refine (HL3.out).mono ?_
      rintro e _ ⟨rfl, rfl⟩
      go_wp2_with fail
      refine (HL5.out).mono ?_
      rintro e _ ⟨rfl, rfl⟩
      go_wp2_with (first | (at_builtin; refine wpList_append_any rfl (.const (.slice none 0 0)) (.tmp 134) 22 rfl w5.heap.size 30 (.agg #[.int .i64 0, .int .i64 0]) 2 16 infoD Try.underlying22 rfl (by decide) _ 0 [] rfl (World.ownsRow_nil _ _ _ _) w5.heap.size YA ny yc (flatD Y) rfl HRY.out HG1.out HG3.out.1 HG3.out.2.2.1 (Nat.le_refl _) ?_; intro vb w6 ho6 hg6 hat6; rw [Nat.zero_add, List.nil_append] at ho6; have HO6 := hide ho6; have HB6 : Hid (Below w5.heap.size w5 w6) := hide ((Below.refl _ w5).grown hg6 (Nat.le_refl _) (fun k e => by cases e)); obtain ⟨PA, pc, rfl⟩ := own_shape ho6; clear ho6 hg6 hat6) | (at_builtin; refine wpList_append_any rfl (.tmp 135) (.tmp 136) 22 rfl w5.heap.size 30 (.agg #[.int .i64 0, .int .i64 0]) 2 16 infoD Try.underlying22 rfl (by decide) _ ny _ rfl HO6.out w6.heap.size ZA nz zc (flatD Z) rfl ((HRZ.out.below HB6.out).more HB6.out.size) HG2.out HG3.out.2.1 HG3.out.2.2.2 HB6.out.size ?_; intro vb w7 ho7 hg7 hat7; have HO7 := hide ho7; have HB7 : Hid (Below w5.heap.size w5 w7) := hide (HB6.out.grown hg7 HB6.out.size (fun k e => (HO6.out.lt k e).1)); obtain ⟨BA, bc, rfl⟩ := own_shape ho7; clear ho7 hg7 hat7))
      have HRX7 := hide ((HRX.out.below HB7.out).more HB7.out.size)
      have hrb := Reads.of_own HO7.out
      rw [← HNS.out.1, ← flatD_append, ← HXE.out] at hrb
      have HRB7 := hide hrb
      have HBW : Hid (Below w.heap.size w w7) := hide (HB5.out.trans (HB7.out.mono HB5.out.size))
      have HC7 := hide (CalF.below HCA.out HB7.out)
      clear hrb HRX HRY HRZ HO6 HO7 HG1 HG2 HG3 HCA HL3 HL5
      rw [← HNS.out.1]
      go_loopw [20] (fun iv wr => ∃ i : Nat, i ≤ nx ∧ iv = .int .i64 i ∧ Below w7.heap.size w7 wr) (fun iv _ => nx - (intOf iv).toNat)
      case atStart => exact ⟨0, Nat.zero_le _, rfl, Below.refl _ _⟩
      case round =>
        obtain ⟨i, hi, rfl, hb⟩ := hrel
        have HB := hide hb
        by_cases hlt : i < nx
        · have hxl : i < X.length := by rw [HNX.out]; exact hlt
          obtain ⟨hle, j, hj, h2, h1⟩ := HTA.out i hxl
          obtain ⟨xg, xo, rfl, hxg, hx⟩ := HRX7.out.2 (by omega)
          obtain ⟨bg, bo, rfl, hbg, hbx⟩ := HRB7.out.2 (by omega)
          obtain ⟨g, o, rfl, hg, hl0, _⟩ := HD.out.at_ j (by rw [← HD.out.len]; exact hj)
          have hw := HBW.out.trans (hb.mono HBW.out.size)
          have x0 := (hb.cell (p := ⟨xg, xo + i * 2, none⟩) hxg).trans (hx _ _ (flatD_at X i hxl).1)
          have x1 := (hb.cell (p := ⟨xg, xo + (i * 2 + 1), none⟩) hxg).trans (hx _ _ (flatD_at X i hxl).2)
          have b0 := (hb.cell (p := ⟨bg, bo + i * 2, none⟩) hbg).trans (hbx _ _ (flatD_at X i hxl).1)
          have b1 := (hb.cell (p := ⟨bg, bo + (i * 2 + 1), none⟩) hbg).trans (hbx _ _ (flatD_at X i hxl).2)
          have l0 := (hw.cell (p := ⟨g, o + j * 2, none⟩) hg).trans hl0
          rw [← h1] at l0
          rw [h2, ← Nat.add_assoc] at x1 b1
          have hjk : (j : Int) < (k : Int) := by rw [← HD.out.len]; omega
          have hi100 : (i : Int) ≤ 100 := by have := HNS.out.2.2.2; omega
          have hik : (i : Int) < (nx : Int) := by omega
          have HUPI : Hid (∀ i', i = i' + 1 → (gD X i').1 < (gD X i).1 ∨ ((gD X i').1 = (gD X i).1 ∧ (gD X i').2 < (j : Int))) := hide (fun i' e => by
            subst e
            rw [← h2]
            exact HTU.out i' hxl)
          have HPX : Hid (∀ i', i = i' + 1 → wr.cell? ⟨xg, xo + i' * 2, none⟩ = some (.int .i64 (gD X i').1) ∧ wr.cell? ⟨xg, xo + i' * 2 + 1, none⟩ = some (.int .i64 (gD X i').2)) := hide (fun i' e => by
            have hl : i' < X.length := by omega
            refine ⟨(hb.cell (p := ⟨xg, xo + i' * 2, none⟩) hxg).trans (hx _ _ (flatD_at X i' hl).1), ?_⟩
            rw [Nat.add_assoc]
            exact (hb.cell (p := ⟨xg, xo + (i' * 2 + 1), none⟩) hxg).trans (hx _ _ (flatD_at X i' hl).2))
          clear hxl hx hbx hl0 h1 h2 hb hw
          generalize (gD X i).1 = a at *
          have hd1 : decide (last < a) = false := decide_eq_false (by omega)
          have hd2 : decide ((j : Int) < 0) = false := decide_eq_false (by omega)
          have hd3 : decide (k ≤ j) = false := decide_eq_false (by omega)
          clear hle
          rcases Nat.eq_zero_or_pos i with hi0 | hi0
          · have hi0' : decide (0 < i) = false := decide_eq_false (by omega)
            clear hi0
            go_wp2_with fail
            go_quiet (fail)
            go_wp2_with fail
            go_quiet (fail)
            go_wp2_with fail
            go_roundw
            case rel => exact ⟨i + 1, by omega, by go_num, below_drewN HB.out _⟩
            case measure => simp [intOf]; omega
          · obtain ⟨i', hii⟩ : ∃ i', i = i' + 1 := ⟨i - 1, by omega⟩
            have hi0' : decide (0 < i) = true := decide_eq_true (by omega)
            have hip : (i : Int) - 1 = (i' : Int) := by omega
            have hi'x : (i' : Int) < (nx : Int) := by omega
            obtain ⟨p0, p1⟩ := HPX.out i' hii
            have hup := HUPI.out i' hii
            generalize (gD X i').1 = a' at *
            generalize (gD X i').2 = j' at *
            clear hi0 hii HUPI HPX
            rcases hup with hup | ⟨rfl, hup⟩
            · have hne1 : decide (a < a') = false := decide_eq_false (by omega)
              have hne2 : (a' == a) = false := by rw [beq_eq_false_iff_ne]; omega
              go_wp2_with fail
              go_quiet (fail)
              go_wp2_with fail
              go_quiet (fail)
              go_wp2_with fail
              go_roundw
              case rel => exact ⟨i + 1, by omega, by go_num, below_drewN HB.out _⟩
              case measure => simp [intOf]; omega
            · have hne3 : decide ((j : Int) ≤ j') = false := decide_eq_false (by omega)
              go_wp2_with fail
              go_quiet (fail)
              go_wp2_with fail
              go_quiet (fail)
              go_wp2_with fail
              go_roundw
              case rel => exact ⟨i + 1, by omega, by go_num, below_drewN HB.out _⟩
              case measure => simp [intOf]; omega
        · obtain rfl : i = nx := by omega
          have HNX := hide (next_any (CalF.below HC7.out HB.out) HRA.out)
          rw [nextV_eq] at HNX
          have HBN : Hid (Below w.heap.size w wr) := hide (HBW.out.trans (hb.mono HBW.out.size))
          clear hb
          go_wp2_with fail
          refine (HNX.out).mono ?_
          rintro _ w8 ⟨rfl, hb8⟩
          have HB8 : Hid (Below w.heap.size w (w8.alloc (.cells #[.int .i64 (hdD D).1, .int .i64 (hdD D).2] 30))) := hide ((HBN.out.trans (hb8.mono HBN.out.size)).alloc (Nat.le_trans HBN.out.size hb8.size) _)
          have hx := heap_alloc_new w8 (.cells #[.int .i64 (hdD D).1, .int .i64 (hdD D).2] 30)
          have q0 := cell_of_row _ _ 0 _ _ (0, 0) hx
          have q4 := frozen_of_row _ _ 0 _ _ hx
          simp only [List.getElem?_toArray, List.getElem?_cons_zero, List.getElem?_cons_succ] at q0
          have HKD := hide (known_any (w8.alloc (.cells #[.int .i64 (hdD D).1, .int .i64 (hdD D).2] 30)))
          clear hb8
          cases D with
          | nil =>
            have ha : anyD [] = false := rfl
            have hh : hdD [] = (0, 0) := rfl
            go_wp2_with fail
            refine (HKD.out).mono ?_
            rintro _ w9 ⟨rfl, hb9⟩
            have HB9 := hide (HB8.out.trans (hb9.mono HB8.out.size))
            clear hb9
            go_wp2_with fail
            go_ret
            exact ⟨rfl, HB9.out⟩
          | cons d D' =>
            have hlate := HNL.out d D' rfl
            have ha : anyD (d :: D') = true := rfl
            have hh : hdD (d :: D') = d := rfl
            go_wp2_with fail
            refine (HKD.out).mono ?_
            rintro _ w9 ⟨rfl, hb9⟩
            have HB9 := hide (HB8.out.trans (hb9.mono HB8.out.size))
            clear hb9
            go_wp2_with fail
            go_ret
            exact ⟨rfl, HB9.out⟩
end Go.Proofs.Ytdaicdaakegdmaa
