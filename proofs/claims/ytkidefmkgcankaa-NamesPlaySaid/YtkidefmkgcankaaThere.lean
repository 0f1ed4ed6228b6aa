/- The walk of NamesThere. -/
import Derived.Test.YtkidefmkgcankaaSht
import Derived.Test.YtkidefmkgcankaaUnsAll
namespace Go.Proofs.Ytkidefmkgcankaa
open Go.RowKit Go.Shelf

theorem spelt_self (s : ByteArray) : Spelt (strI (34 :: spellI (bytesI s) ++ [34])) (bytesI s) := by
  refine ⟨bytesI_byte s, bytesI_strI _ ?_⟩
  intro n hn
  rcases List.mem_append.1 hn with h | h
  · rcases List.mem_cons.1 h with rfl | h
    · exact ⟨by omega, by omega⟩
    · exact spellI_byte (bytesI_byte s) n h
  · obtain rfl := List.mem_singleton.1 h
    exact ⟨by omega, by omega⟩
theorem strI_size (l : List Int) : (strI l).size = l.length := by
  show (l.map _).toArray.size = _
  simp
/-- A name spelt is read as it was. -/
theorem back_any (s : ByteArray) (hs : s.size ≤ 64) (w : World) : Calls Try.prog 8 #[.string (strI (34 :: spellI (bytesI s) ++ [34]))] w fun e w' => e = .returned (.tuple #[.string s, .int .i64 0]) ∧ Below w.heap.size w w' := by
  refine (uns_any _ w ?_).mono ?_
  · rw [strI_size]
    have := spellI_len (bytesI s)
    rw [bytesI_length] at this
    simp only [List.length_append, List.length_cons, List.length_nil]
    omega
  · rintro e w' ⟨⟨x, hx, rfl⟩ | ⟨hn, _⟩, hb⟩
    · rw [hx.uniq (spelt_self s), strI_bytesI]
      exact ⟨rfl, hb⟩
    · exact absurd (spelt_self s) (hn _)
theorem cut_bytes (s : ByteArray) (n : Nat) : (s.extract 0 n).data.toList = s.data.toList.take n := by
  rw [← Lib.toList_data, Lib.extract_toList]; simp
theorem geq_less {s t : ByteArray} (h : Op.bytesLess s.data.toList t.data.toList = true) (W : World) : (binOp .geq 9 (.string s) (.string t)).run Try.prog W = .ok (.bool false) W := by
  rw [← Lib.toList_data, ← Lib.toList_data] at h
  have : (binOp .geq 9 (.string s) (.string t)).run Try.prog W = .ok (.bool (!Op.bytesLess s.toList t.toList)) W := rfl
  rw [this, h]; rfl

/-- What Add leaves: a table with as many names at most. -/
theorem addRes_len (l : List ByteArray) (most : Int) (s : ByteArray) : ((addRes l most s).2.1 ≠ 0 → (addRes l most s).2.2 = l) ∧ ((addRes l most s).2.2).length ≤ l.length + 1 := by
  unfold addRes
  split
  · exact ⟨fun _ => rfl, by simp⟩
  · split
    · exact ⟨fun _ => rfl, by simp⟩
    · split
      · exact ⟨fun _ => rfl, by simp⟩
      · exact ⟨fun h => absurd rfl h, by simp⟩

set_option maxRecDepth 100000 in
set_option maxHeartbeats 8000000 in
theorem there_any (A : Option Addr) (n c : Nat) (ss : List ByteArray) (w : World) (hn : (n : Int) ≤ 9223372036854775807) (hss : ss.length = n) (hr : Reads w w.heap.size 1 A n (ss.map Value.string)) :
    Calls Try.prog 6 #[.slice A n c] w (BelowPost (.bool true) w) := by
  by_cases h60 : 60 < n
  · have h60' : (60 : Int) < (n : Int) := by omega
    clear hr
    go_enter Try.func6, Try.ntmps6
    go_wp2_with fail
    refine (known_any w).mono ?_
    rintro e w1 ⟨rfl, hb1⟩
    go_wp2_with fail
    go_ret
    exact ⟨rfl, hb1⟩
  · have h60' : (n : Int) ≤ 60 := by omega
    have h60n : ¬ (60 : Int) < (n : Int) := by omega
    have hat : ∀ k s, ss[k]? = some s → ∃ g o, A = some ⟨g, o, none⟩ ∧ g < w.heap.size ∧ w.cell? ⟨g, o + k, none⟩ = some (.string s) := fun k s hs => by
      obtain ⟨g, o, e, hb, hcc⟩ := hr.2 (by have := (List.getElem?_eq_some_iff.1 hs).1; omega)
      exact ⟨g, o, e, hb, hcc k (.string s) (by rw [List.getElem?_map, hs]; rfl)⟩
    have HAT := hide hat
    have HSS := hide hss
    clear hat hr hss h60 hn
    go_enter Try.func6, Try.ntmps6
    go_wp2_with fail
    refine (new_any (n : Int) w (by omega) (by omega)).mono ?_
    rintro e w1 ⟨p, v, m, rfl, hnt, hb1⟩
    have HNT0 := hide hnt
    have HB0 := hide hb1
    clear hnt hb1
    go_wp2_with fail
    go_loopw [5] (fun i wr => ∃ (k : Nat) (v : Value) (l : List ByteArray), k ≤ n ∧ i = .int .i64 k ∧ NT wr w.heap.size p v m l (n : Int) ∧ Below w.heap.size w wr) (fun i _ => n - (intOf i).toNat)
    case atStart => exact ⟨0, v, [], Nat.zero_le _, rfl, HNT0.out, HB0.out⟩
    case round =>
      obtain ⟨k, v, l, hk, rfl, hnt, hb⟩ := hrel
      by_cases hkn : k < n
      · have hkn1 : (k : Int) < (n : Int) := by omega
        obtain ⟨x, hx⟩ : ∃ x, ss[k]? = some x := ⟨ss[k]'(by rw [HSS.out]; exact hkn), List.getElem?_eq_getElem _⟩
        obtain ⟨g, o, rfl, hgb, hcc⟩ := HAT.out k x hx
        have e0 := (hb.cell (p := ⟨g, o + k, none⟩) hgb).trans hcc
        have HLEN := hide (len_any hnt)
        have HADD := hide (add_any w.heap.size p m v l (n : Int) x wr hnt hb.size)
        have HNT := hide hnt
        have HB := hide hb
        have hk0 : (0 : Int) ≤ (k : Int) := by omega
        have hres := addRes_len l (n : Int) x
        have HRES := hide hres
        clear hx hcc hnt hb hres
        go_wp2_with fail
        refine (HLEN.out).mono ?_
        rintro e _ ⟨rfl, rfl⟩
        go_wp2_with fail
        refine (HADD.out).mono ?_
        rintro e w2 ⟨rfl, v2, hnt2, hon2, _⟩
        have HB2 : Hid (Below w.heap.size w w2) := hide (HB.out.trans (foot_below HNT.out hon2 HB.out.size))
        have HNT2 := hide hnt2
        have HLEN2 := hide (len_any hnt2)
        generalize addRes l (n : Int) x = R at *
        obtain ⟨r1, r2, r3⟩ := R
        clear hnt2 hon2 e0
        simp only
        by_cases hr0 : r2 = 0
        · subst hr0
          have h00 : ((0 : Int) != 0) = false := by simp
          go_wp2_with fail
          go_roundw
          case rel => exact ⟨k + 1, v2, r3, by omega, by go_num, HNT2.out, HB2.out⟩
          case measure => simp [intOf]; omega
        · have h00 : (r2 != 0) = true := by simp [hr0]
          have e3 : r3 = l := HRES.out.1 hr0
          subst e3
          have hll : ((r3.length : Int) != (r3.length : Int)) = false := by simp
          go_wp2_with (go_at_call 18; refine (HLEN2.out).mono ?_; rintro e _ ⟨rfl, rfl⟩)
          go_roundw
          case rel => exact ⟨k + 1, v2, r3, by omega, by go_num, HNT2.out, HB2.out⟩
          case measure => simp [intOf]; omega
      · have hkn1 : ¬ (k : Int) < (n : Int) := by omega
        have HNT := hide hnt
        have HB := hide hb
        have HSO := hide (sortedT_any hnt)
        clear hnt hb
        go_wp2_with fail
        refine (HSO.out).mono ?_
        rintro e w5 ⟨vs, rs, rfl, hbr, hown, hb5⟩
        obtain ⟨As, cs, rfl⟩ := own_shape hown
        have hrl : rs.length = l.length := by
          have := hbr.perm.length_eq
          rwa [begP_all, List.length_range] at this
        have HNT5 : Hid (∀ W, Below w5.heap.size w5 W → NT W w.heap.size p v m l (n : Int)) := hide (fun W hW => (HNT.out.below hb5).below hW)
        have HB5 : Hid (Below w.heap.size w w5) := hide (HB.out.trans (hb5.mono HB.out.size))
        have HOW := hide hown
        have HBR := hide hbr
        have HRL := hide hrl
        have HL5 := hide (len_any (HNT.out.below hb5))
        have hrl' : ((rs.length : Int) != (l.length : Int)) = false := by rw [hrl]; simp
        have hl60 : l.length ≤ 60 := by have := HNT.out.len; omega
        have HOK := hide HNT.out.ok
        have HND := hide HNT.out.nodup
        clear hown hb5 hbr hrl
        go_wp2_with (go_at_call 18; refine (HL5.out).mono ?_; rintro e _ ⟨rfl, rfl⟩)
        go_loopw [10] (fun i wr => ∃ k : Nat, k ≤ l.length ∧ i = .int .i64 k ∧ Below w5.heap.size w5 wr) (fun i _ => l.length - (intOf i).toNat)
        case atStart => exact ⟨0, Nat.zero_le _, rfl, Below.refl _ _⟩
        case round =>
          obtain ⟨k, hkl, rfl, hbw⟩ := hrel
          have HL := hide (len_any (HNT5.out wr hbw))
          by_cases hlt : k < l.length
          · have hlt1 : (k : Int) < (l.length : Int) := by omega
            obtain ⟨s, hs⟩ : ∃ s, l[k]? = some s := ⟨l[k], List.getElem?_eq_getElem hlt⟩
            have hsz := HOK.out s (List.mem_of_getElem? hs)
            have HNAME := hide (name_hit (HNT5.out wr hbw) k s hs)
            have HFIND := hide (find_hit w.heap.size p m v l (n : Int) s k wr (HNT5.out wr hbw) (by unfold maxLen; omega) hs)
            have HSHORT := hide (short_any (HNT5.out wr hbw) k s hs hsz)
            have hnm : nmB l k = s.data.toList := nmB_of hs
            have hnl : (nmB l k).length = s.size := by rw [hnm]; simp
            have hsh := shN_le (l := l) (n := k) (by rw [hnl]; exact hsz.1) l.length
            rw [hnl] at hsh
            obtain ⟨e, he⟩ : ∃ e, e = shN l k l.length := ⟨_, rfl⟩
            rw [← he] at hsh HSHORT
            have HLAW : Hid (∀ r, BegOf l ((s.extract 0 e).data.toList) r → r[0]? = some k ∧ (1 < r.length → e = s.size)) := hide (fun r h1 => by
              rw [cut_bytes, ← hnm] at h1
              rw [← hnl]
              exact short_one HND.out hlt (by rw [hnl]; exact hsz.1) he h1)
            have HLAW2 : Hid (∀ t, 1 < e → BegOf l ((s.extract 0 (e - 1)).data.toList) t → 2 ≤ t.length) := hide (fun t h1 h2 => by
              rw [cut_bytes, ← hnm] at h2
              exact short_two hlt (by rw [hnl]; exact hsz.1) he h1 h2)
            have HSZ := hide hsz
            have HBW := hide hbw
            have HS := hide hs
            have hkk : ((k : Int) != (k : Int)) = false := by simp
            have he1 : ¬ (e : Int) < 1 := by omega
            have he2 : ¬ (s.size : Int) < (e : Int) := by omega
            have he3 : (e : Int) ≤ (s.size : Int) := by omega
            have he4 : (0 : Int) ≤ (e : Int) := by omega
            have HE := hide hsh
            clear hs hbw hnm hnl he hsh hsz
            go_wp2_with (first | (go_at_call 18; refine (HL.out).mono ?_; rintro e _ ⟨rfl, rfl⟩) | (go_at_call 21; refine (HNAME.out).mono ?_; rintro e _ ⟨rfl, rfl⟩) | (go_at_call 22; refine (HFIND.out).mono ?_; rintro e _ ⟨rfl, rfl⟩))
            refine (HSHORT.out).mono ?_
            rintro _ w6 ⟨rfl, hb6⟩
            have HB6 : Hid (Below w5.heap.size w5 w6) := hide (HBW.out.trans (hb6.mono HBW.out.size))
            clear hb6
            go_wp2_with fail
            refine (begins_any (HNT5.out w6 HB6.out) _).mono ?_
            rintro _ w7 ⟨v7, r, rfl, hbr, hown7, hb7⟩
            have hr0 := HLAW.out r hbr
            have hrp : 0 < r.length := (List.getElem?_eq_some_iff.1 hr0.1).1
            obtain ⟨g7, c7, rfl, _⟩ := hown7.form hrp
            have HB7 : Hid (Below w5.heap.size w5 w7) := hide (HB6.out.trans (hb7.mono HB6.out.size))
            obtain ⟨gg, oo, hgg, _, hcc⟩ := (Reads.of_own hown7).2 hrp
            have z0 := hcc 0 (.int .i64 (k : Int)) (by unfold nmV; rw [List.getElem?_map, hr0.1]; rfl)
            injection hgg with hgg
            injection hgg with hg1 hg2 _
            subst hg1 hg2
            simp only [Nat.add_zero] at z0
            have hl0 := hr0.2
            have hrp1 : ¬ (r.length : Int) < 1 := by omega
            have hrp2 : (0 : Int) < (r.length : Int) := by omega
            have hwe : IntKind.i64.wrap ((e : Int) - 1) = ((e - 1 : Nat) : Int) := by rw [Go.IntWalk.i64_in _ (by have := HE.out; have := HSZ.out; omega)]; have := HE.out; omega
            have he5 : (0 : Int) ≤ ((e - 1 : Nat) : Int) := by omega
            have he6 : ((e - 1 : Nat) : Int) ≤ (s.size : Int) := by have := HE.out; omega
            clear hbr hown7 hb7 hcc hr0
            by_cases hr1 : 1 < r.length
            · have hr1' : (1 : Int) < (r.length : Int) := by omega
              have hes : e = s.size := hl0 hr1
              have hes1 : ((e : Int) != (s.size : Int)) = false := by rw [hes]; simp
              have HES := hide hes
              clear hl0 hr1 hes
              by_cases hx : 1 < e
              · have hx1 : (1 : Int) < (e : Int) := by omega
                go_wp2_with fail
                refine (begins_any (HNT5.out w7 HB7.out) (s.extract 0 (e - 1))).mono ?_
                rintro _ w8 ⟨v8, t8, rfl, hbt, hown8, hb8⟩
                have HBX : Hid (Below w5.heap.size w5 w8) := hide (HB7.out.trans (hb8.mono HB7.out.size))
                obtain ⟨A8, c8, rfl⟩ := own_shape hown8
                have h82 : ¬ (t8.length : Int) < 2 := by have := HLAW2.out t8 (by omega) hbt; omega
                clear hbt hown8 hb8
                go_wp2_with fail
                refine (spell_any s _ (by have := HSZ.out; omega)).mono ?_
                rintro _ w9 ⟨rfl, hb9⟩
                go_wp2_with fail
                refine (back_any s HSZ.out.2 _).mono ?_
                rintro _ wa ⟨rfl, hba⟩
                have HBA : Hid (Below w5.heap.size w5 wa) := hide (HBX.out.trans ((hb9.trans (hba.mono hb9.size)).mono HBX.out.size))
                clear hb9 hba
                by_cases hk0 : 0 < k
                · have hk1 : (0 : Int) < (k : Int) := by omega
                  have hk2 : IntKind.i64.wrap ((k : Int) - 1) = ((k - 1 : Nat) : Int) := by rw [Go.IntWalk.i64_in _ (by omega)]; omega
                  obtain ⟨i, j, hi, hj, hi', hj', hij⟩ : ∃ i j, rs[k - 1]? = some i ∧ rs[k]? = some j ∧ i < l.length ∧ j < l.length ∧ Op.bytesLess (nmB l i) (nmB l j) = true := by
                    have h1 : k - 1 < rs.length := by rw [HRL.out]; omega
                    have h2 : k < rs.length := by rw [HRL.out]; omega
                    refine ⟨rs[k - 1], rs[k], List.getElem?_eq_getElem h1, List.getElem?_eq_getElem h2, HBR.out.lt (List.getElem_mem _), HBR.out.lt (List.getElem_mem _), ?_⟩
                    exact List.pairwise_iff_getElem.1 HBR.out.up (k - 1) k h1 h2 (by omega)
                  obtain ⟨gs, os, hAs, hgs, hcs⟩ := (Reads.of_own HOW.out).2 (by rw [HRL.out]; omega)
                  have y1 := (HBA.out.cell (p := ⟨gs, os + (k - 1), none⟩) hgs).trans (hcs (k - 1) (.int .i64 (i : Int)) (by unfold nmV; rw [List.getElem?_map, hi]; rfl))
                  have y2 := (HBA.out.cell (p := ⟨gs, os + k, none⟩) hgs).trans (hcs k (.int .i64 (j : Int)) (by unfold nmV; rw [List.getElem?_map, hj]; rfl))
                  subst hAs
                  have HN1 := hide (name_hit (HNT5.out wa HBA.out) i l[i] (List.getElem?_eq_getElem hi'))
                  have HN2 := hide (name_hit (HNT5.out wa HBA.out) j l[j] (List.getElem?_eq_getElem hj'))
                  rw [nmB_of (List.getElem?_eq_getElem hi'), nmB_of (List.getElem?_eq_getElem hj')] at hij
                  rw [← Lib.toList_data, ← Lib.toList_data] at hij
                  generalize l[i] = s1 at *
                  generalize l[j] = s2 at *
                  have hk3 : (0 : Int) ≤ ((k - 1 : Nat) : Int) := by omega
                  have hk4 : ((k - 1 : Nat) : Int) < (rs.length : Int) := by rw [HRL.out]; omega
                  have hk5 : (k : Int) < (rs.length : Int) := by rw [HRL.out]; omega
                  have hk6 : (0 : Int) ≤ (k : Int) := by omega
                  clear hi hj hcs
                  go_wp2_with fail
                  refine (HN1.out).mono ?_
                  rintro _ _ ⟨rfl, rfl⟩
                  go_wp2_with fail
                  refine (HN2.out).mono ?_
                  rintro _ _ ⟨rfl, rfl⟩
                  go_wp2_with fail
                  go_roundw
                  case rel => exact ⟨k + 1, by omega, by go_num, HBA.out⟩
                  case measure => simp [intOf]; omega
                · have hk1 : ¬ (0 : Int) < (k : Int) := by omega
                  go_wp2_with fail
                  go_roundw
                  case rel => exact ⟨k + 1, by omega, by go_num, HBA.out⟩
                  case measure => simp [intOf]; omega
              · have hx1 : ¬ (1 : Int) < (e : Int) := by omega
                have HBX := HB7
                go_wp2_with fail
                refine (spell_any s _ (by have := HSZ.out; omega)).mono ?_
                rintro _ w9 ⟨rfl, hb9⟩
                go_wp2_with fail
                refine (back_any s HSZ.out.2 _).mono ?_
                rintro _ wa ⟨rfl, hba⟩
                have HBA : Hid (Below w5.heap.size w5 wa) := hide (HBX.out.trans ((hb9.trans (hba.mono hb9.size)).mono HBX.out.size))
                clear hb9 hba
                by_cases hk0 : 0 < k
                · have hk1 : (0 : Int) < (k : Int) := by omega
                  have hk2 : IntKind.i64.wrap ((k : Int) - 1) = ((k - 1 : Nat) : Int) := by rw [Go.IntWalk.i64_in _ (by omega)]; omega
                  obtain ⟨i, j, hi, hj, hi', hj', hij⟩ : ∃ i j, rs[k - 1]? = some i ∧ rs[k]? = some j ∧ i < l.length ∧ j < l.length ∧ Op.bytesLess (nmB l i) (nmB l j) = true := by
                    have h1 : k - 1 < rs.length := by rw [HRL.out]; omega
                    have h2 : k < rs.length := by rw [HRL.out]; omega
                    refine ⟨rs[k - 1], rs[k], List.getElem?_eq_getElem h1, List.getElem?_eq_getElem h2, HBR.out.lt (List.getElem_mem _), HBR.out.lt (List.getElem_mem _), ?_⟩
                    exact List.pairwise_iff_getElem.1 HBR.out.up (k - 1) k h1 h2 (by omega)
                  obtain ⟨gs, os, hAs, hgs, hcs⟩ := (Reads.of_own HOW.out).2 (by rw [HRL.out]; omega)
                  have y1 := (HBA.out.cell (p := ⟨gs, os + (k - 1), none⟩) hgs).trans (hcs (k - 1) (.int .i64 (i : Int)) (by unfold nmV; rw [List.getElem?_map, hi]; rfl))
                  have y2 := (HBA.out.cell (p := ⟨gs, os + k, none⟩) hgs).trans (hcs k (.int .i64 (j : Int)) (by unfold nmV; rw [List.getElem?_map, hj]; rfl))
                  subst hAs
                  have HN1 := hide (name_hit (HNT5.out wa HBA.out) i l[i] (List.getElem?_eq_getElem hi'))
                  have HN2 := hide (name_hit (HNT5.out wa HBA.out) j l[j] (List.getElem?_eq_getElem hj'))
                  rw [nmB_of (List.getElem?_eq_getElem hi'), nmB_of (List.getElem?_eq_getElem hj')] at hij
                  rw [← Lib.toList_data, ← Lib.toList_data] at hij
                  generalize l[i] = s1 at *
                  generalize l[j] = s2 at *
                  have hk3 : (0 : Int) ≤ ((k - 1 : Nat) : Int) := by omega
                  have hk4 : ((k - 1 : Nat) : Int) < (rs.length : Int) := by rw [HRL.out]; omega
                  have hk5 : (k : Int) < (rs.length : Int) := by rw [HRL.out]; omega
                  have hk6 : (0 : Int) ≤ (k : Int) := by omega
                  clear hi hj hcs
                  go_wp2_with fail
                  refine (HN1.out).mono ?_
                  rintro _ _ ⟨rfl, rfl⟩
                  go_wp2_with fail
                  refine (HN2.out).mono ?_
                  rintro _ _ ⟨rfl, rfl⟩
                  go_wp2_with fail
                  go_roundw
                  case rel => exact ⟨k + 1, by omega, by go_num, HBA.out⟩
                  case measure => simp [intOf]; omega
                · have hk1 : ¬ (0 : Int) < (k : Int) := by omega
                  go_wp2_with fail
                  go_roundw
                  case rel => exact ⟨k + 1, by omega, by go_num, HBA.out⟩
                  case measure => simp [intOf]; omega
            · have hr1' : ¬ (1 : Int) < (r.length : Int) := by omega
              clear hl0 hr1
              by_cases hx : 1 < e
              · have hx1 : (1 : Int) < (e : Int) := by omega
                go_wp2_with fail
                refine (begins_any (HNT5.out w7 HB7.out) (s.extract 0 (e - 1))).mono ?_
                rintro _ w8 ⟨v8, t8, rfl, hbt, hown8, hb8⟩
                have HBX : Hid (Below w5.heap.size w5 w8) := hide (HB7.out.trans (hb8.mono HB7.out.size))
                obtain ⟨A8, c8, rfl⟩ := own_shape hown8
                have h82 : ¬ (t8.length : Int) < 2 := by have := HLAW2.out t8 (by omega) hbt; omega
                clear hbt hown8 hb8
                go_wp2_with fail
                refine (spell_any s _ (by have := HSZ.out; omega)).mono ?_
                rintro _ w9 ⟨rfl, hb9⟩
                go_wp2_with fail
                refine (back_any s HSZ.out.2 _).mono ?_
                rintro _ wa ⟨rfl, hba⟩
                have HBA : Hid (Below w5.heap.size w5 wa) := hide (HBX.out.trans ((hb9.trans (hba.mono hb9.size)).mono HBX.out.size))
                clear hb9 hba
                by_cases hk0 : 0 < k
                · have hk1 : (0 : Int) < (k : Int) := by omega
                  have hk2 : IntKind.i64.wrap ((k : Int) - 1) = ((k - 1 : Nat) : Int) := by rw [Go.IntWalk.i64_in _ (by omega)]; omega
                  obtain ⟨i, j, hi, hj, hi', hj', hij⟩ : ∃ i j, rs[k - 1]? = some i ∧ rs[k]? = some j ∧ i < l.length ∧ j < l.length ∧ Op.bytesLess (nmB l i) (nmB l j) = true := by
                    have h1 : k - 1 < rs.length := by rw [HRL.out]; omega
                    have h2 : k < rs.length := by rw [HRL.out]; omega
                    refine ⟨rs[k - 1], rs[k], List.getElem?_eq_getElem h1, List.getElem?_eq_getElem h2, HBR.out.lt (List.getElem_mem _), HBR.out.lt (List.getElem_mem _), ?_⟩
                    exact List.pairwise_iff_getElem.1 HBR.out.up (k - 1) k h1 h2 (by omega)
                  obtain ⟨gs, os, hAs, hgs, hcs⟩ := (Reads.of_own HOW.out).2 (by rw [HRL.out]; omega)
                  have y1 := (HBA.out.cell (p := ⟨gs, os + (k - 1), none⟩) hgs).trans (hcs (k - 1) (.int .i64 (i : Int)) (by unfold nmV; rw [List.getElem?_map, hi]; rfl))
                  have y2 := (HBA.out.cell (p := ⟨gs, os + k, none⟩) hgs).trans (hcs k (.int .i64 (j : Int)) (by unfold nmV; rw [List.getElem?_map, hj]; rfl))
                  subst hAs
                  have HN1 := hide (name_hit (HNT5.out wa HBA.out) i l[i] (List.getElem?_eq_getElem hi'))
                  have HN2 := hide (name_hit (HNT5.out wa HBA.out) j l[j] (List.getElem?_eq_getElem hj'))
                  rw [nmB_of (List.getElem?_eq_getElem hi'), nmB_of (List.getElem?_eq_getElem hj')] at hij
                  rw [← Lib.toList_data, ← Lib.toList_data] at hij
                  generalize l[i] = s1 at *
                  generalize l[j] = s2 at *
                  have hk3 : (0 : Int) ≤ ((k - 1 : Nat) : Int) := by omega
                  have hk4 : ((k - 1 : Nat) : Int) < (rs.length : Int) := by rw [HRL.out]; omega
                  have hk5 : (k : Int) < (rs.length : Int) := by rw [HRL.out]; omega
                  have hk6 : (0 : Int) ≤ (k : Int) := by omega
                  clear hi hj hcs
                  go_wp2_with fail
                  refine (HN1.out).mono ?_
                  rintro _ _ ⟨rfl, rfl⟩
                  go_wp2_with fail
                  refine (HN2.out).mono ?_
                  rintro _ _ ⟨rfl, rfl⟩
                  go_wp2_with fail
                  go_roundw
                  case rel => exact ⟨k + 1, by omega, by go_num, HBA.out⟩
                  case measure => simp [intOf]; omega
                · have hk1 : ¬ (0 : Int) < (k : Int) := by omega
                  go_wp2_with fail
                  go_roundw
                  case rel => exact ⟨k + 1, by omega, by go_num, HBA.out⟩
                  case measure => simp [intOf]; omega
              · have hx1 : ¬ (1 : Int) < (e : Int) := by omega
                have HBX := HB7
                go_wp2_with fail
                refine (spell_any s _ (by have := HSZ.out; omega)).mono ?_
                rintro _ w9 ⟨rfl, hb9⟩
                go_wp2_with fail
                refine (back_any s HSZ.out.2 _).mono ?_
                rintro _ wa ⟨rfl, hba⟩
                have HBA : Hid (Below w5.heap.size w5 wa) := hide (HBX.out.trans ((hb9.trans (hba.mono hb9.size)).mono HBX.out.size))
                clear hb9 hba
                by_cases hk0 : 0 < k
                · have hk1 : (0 : Int) < (k : Int) := by omega
                  have hk2 : IntKind.i64.wrap ((k : Int) - 1) = ((k - 1 : Nat) : Int) := by rw [Go.IntWalk.i64_in _ (by omega)]; omega
                  obtain ⟨i, j, hi, hj, hi', hj', hij⟩ : ∃ i j, rs[k - 1]? = some i ∧ rs[k]? = some j ∧ i < l.length ∧ j < l.length ∧ Op.bytesLess (nmB l i) (nmB l j) = true := by
                    have h1 : k - 1 < rs.length := by rw [HRL.out]; omega
                    have h2 : k < rs.length := by rw [HRL.out]; omega
                    refine ⟨rs[k - 1], rs[k], List.getElem?_eq_getElem h1, List.getElem?_eq_getElem h2, HBR.out.lt (List.getElem_mem _), HBR.out.lt (List.getElem_mem _), ?_⟩
                    exact List.pairwise_iff_getElem.1 HBR.out.up (k - 1) k h1 h2 (by omega)
                  obtain ⟨gs, os, hAs, hgs, hcs⟩ := (Reads.of_own HOW.out).2 (by rw [HRL.out]; omega)
                  have y1 := (HBA.out.cell (p := ⟨gs, os + (k - 1), none⟩) hgs).trans (hcs (k - 1) (.int .i64 (i : Int)) (by unfold nmV; rw [List.getElem?_map, hi]; rfl))
                  have y2 := (HBA.out.cell (p := ⟨gs, os + k, none⟩) hgs).trans (hcs k (.int .i64 (j : Int)) (by unfold nmV; rw [List.getElem?_map, hj]; rfl))
                  subst hAs
                  have HN1 := hide (name_hit (HNT5.out wa HBA.out) i l[i] (List.getElem?_eq_getElem hi'))
                  have HN2 := hide (name_hit (HNT5.out wa HBA.out) j l[j] (List.getElem?_eq_getElem hj'))
                  rw [nmB_of (List.getElem?_eq_getElem hi'), nmB_of (List.getElem?_eq_getElem hj')] at hij
                  rw [← Lib.toList_data, ← Lib.toList_data] at hij
                  generalize l[i] = s1 at *
                  generalize l[j] = s2 at *
                  have hk3 : (0 : Int) ≤ ((k - 1 : Nat) : Int) := by omega
                  have hk4 : ((k - 1 : Nat) : Int) < (rs.length : Int) := by rw [HRL.out]; omega
                  have hk5 : (k : Int) < (rs.length : Int) := by rw [HRL.out]; omega
                  have hk6 : (0 : Int) ≤ (k : Int) := by omega
                  clear hi hj hcs
                  go_wp2_with fail
                  refine (HN1.out).mono ?_
                  rintro _ _ ⟨rfl, rfl⟩
                  go_wp2_with fail
                  refine (HN2.out).mono ?_
                  rintro _ _ ⟨rfl, rfl⟩
                  go_wp2_with fail
                  go_roundw
                  case rel => exact ⟨k + 1, by omega, by go_num, HBA.out⟩
                  case measure => simp [intOf]; omega
                · have hk1 : ¬ (0 : Int) < (k : Int) := by omega
                  go_wp2_with fail
                  go_roundw
                  case rel => exact ⟨k + 1, by omega, by go_num, HBA.out⟩
                  case measure => simp [intOf]; omega
          · have hlt1 : ¬ (k : Int) < (l.length : Int) := by omega
            have HBW := hide hbw
            clear hbw
            go_wp2_with (go_at_call 18; refine (HL.out).mono ?_; rintro e _ ⟨rfl, rfl⟩)
            refine (known_any _).mono ?_
            rintro _ w6 ⟨rfl, hb6⟩
            go_wp2_with fail
            go_ret
            exact ⟨rfl, HB5.out.trans ((HBW.out.trans (hb6.mono HBW.out.size)).mono HB5.out.size)⟩
end Go.Proofs.Ytkidefmkgcankaa
