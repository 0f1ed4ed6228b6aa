/- The walks of Copy, Same, of the refusing arms of Name and Short; two lists of numbers compared. -/
import Derived.Test.YtkidefmkgcankaaDcS
namespace Go.Proofs.Ytkidefmkgcankaa
open Go.RowKit Go.Maps Go.Shelf
open Go.ChangeMaps Go.WideMaps
section
variable {w w' : World} {B p m : Nat} {v : Value} {l : List ByteArray} {most : Int}
theorem NT.lenN (h : NT w B p v m l most) : l.length ≤ 1048576 := by have := h.len; have := h.most; omega
theorem NT.get_ok (h : NT w B p v m l most) {n : Nat} {s : ByteArray} (hs : l[n]? = some s) : 1 ≤ s.size ∧ s.size ≤ 64 := h.ok s (List.mem_of_getElem? hs)
set_option maxHeartbeats 1000000 in
theorem name_bad (h : NT w B p v m l most) (n : Int) (hn : n < 0 ∨ (l.length : Int) ≤ n) : Calls Try.prog 21 #[.pointer (some ⟨p, 0, none⟩), .int .i64 n] w (SameP (.tuple #[.string ⟨#[]⟩, .bool false]) w) := by
  have HL := hide (len_any h)
  by_cases h0 : n < 0
  · clear h hn
    go_enter Try.func21, Try.ntmps21
    go_wp2_with fail
    go_ret2
    exact ⟨rfl, rfl⟩
  · have h1 : (l.length : Int) ≤ n := by omega
    clear h hn
    go_enter Try.func21, Try.ntmps21
    go_wp2_with (go_at_call 18; refine (HL.out).mono ?_; rintro e _ ⟨rfl, rfl⟩)
    go_ret2
    exact ⟨rfl, rfl⟩
set_option maxRecDepth 100000 in
set_option maxHeartbeats 1000000 in
theorem short_bad (h : NT w B p v m l most) (n : Int) (hn : n < 0 ∨ (l.length : Int) ≤ n) : Calls Try.prog 23 #[.pointer (some ⟨p, 0, none⟩), .int .i64 n] w (BelowPost (.tuple #[.int .i64 0, .bool false]) w) := by
  obtain ⟨w1, hw1⟩ : ∃ w1, w1 = w.alloc (.cells #[.int .i64 n] 3) := ⟨_, rfl⟩
  have HB : Hid (Below w.heap.size w w1) := hide (by rw [hw1]; exact (Below.refl _ _).alloc (Nat.le_refl _) _)
  have y0 := cell_of_row w1 w.heap.size 0 _ 3 (0, 0) (by rw [hw1]; exact heap_alloc_new w _)
  simp only [List.getElem?_toArray, List.getElem?_cons_zero] at y0
  have HN := hide (name_bad (h.below HB.out) n hn)
  have HB2 : Hid (Below w.heap.size w (w1.alloc (.cells #[.string ⟨#[]⟩] 9))) := hide (HB.out.alloc HB.out.size _)
  clear h hn
  refine (callsIn_wide (n := 9)).1 ?_
  refine callsIn_of_wp_marks Try.func23 rfl trivial ?_ rfl
  simp only [Try.ntmps23, List.size_toArray, List.length_cons, List.length_nil, Nat.reduceAdd, Nat.reduceSub, Array.replicate_succ, Array.replicate_zero, List.push_toArray, List.append_toArray, List.nil_append, List.cons_append]
  gi_wp2_with fail
  rw [← hw1]
  clear hw1
  refine wpIn_scope_wide ?_
  gi_wp2_with (refine ⟨trivial, ?_⟩; gi_at_call 21; refine (callsIn_wide.2 HN.out).mono ?_; rintro e _ ⟨rfl, rfl⟩)
  exact ⟨.tuple #[.int .i64 0, .bool false], by simp [results, Try.results23, go_sem], rfl, HB2.out⟩
/-- What Copy leaves: a table of its own. -/
def CopyN (l : List ByteArray) (most : Int) (w : World) (e : Ending) (w' : World) : Prop :=
  ∃ p v m, e = .returned (.pointer (some ⟨p, 0, none⟩)) ∧ NT w' w.heap.size p v m l most ∧ Below w.heap.size w w'
theorem addRes_take (h : NT w B p v m l most) {k : Nat} {t : ByteArray} (ht : l[k]? = some t) : addRes (l.take k) most t = ((k : Int), 0, l.take (k + 1)) := by
  have hk : k < l.length := (List.getElem?_eq_some_iff.1 ht).1
  have hs := h.get_ok ht
  have hlk : (l.take k).length = k := by rw [List.length_take]; omega
  unfold addRes
  rw [if_neg (by omega), if_neg, if_neg, hlk, List.take_add_one, ht]
  · rfl
  · rw [hlk]; have := h.len; omega
  · intro hm
    obtain ⟨j, hj, e⟩ := List.getElem_of_mem hm
    rw [hlk] at hj
    rw [List.getElem_take] at e
    have hn := h.nodup
    unfold List.Nodup at hn
    have := (List.pairwise_iff_getElem.1 hn) j k (by omega) hk hj
    obtain ⟨_, e2⟩ := List.getElem?_eq_some_iff.1 ht
    rw [e, e2] at this
    exact this rfl
set_option maxRecDepth 100000 in
set_option maxHeartbeats 4000000 in
theorem copy_any (h : NT w B p v m l most) : Calls Try.prog 36 #[.pointer (some ⟨p, 0, none⟩)] w (CopyN l most w) := by
  have c0 := h.cell 0
  have c1 := h.cell 1
  have c2 := h.cell 2
  simp at c0 c1 c2
  obtain ⟨A, c, hv⟩ := own_shape h.row
  subst hv
  have HNW := hide (new_any most w (by have := h.len; omega) h.most)
  have HH := hide h
  have hl9 : (l.length : Int) ≤ 1048576 := by have := h.lenN; omega
  clear h
  go_enter Try.func36, Try.ntmps36
  go_wp2_with (first | (go_at_call 39; refine (none_any p _ _ c1).mono ?_; rintro e w' ⟨rfl, rfl⟩) | (go_at_call 12; refine (HNW.out).mono ?_; rintro e w1 ⟨p', v', m', rfl, hnt, hb1⟩; have d0 := (hb1.block _ (lt_of_block HH.out.blk)).trans HH.out.blk; have d0 := cell_of_row w1 p 0 _ 53 (0, 0) d0; simp only [List.getElem?_toArray, List.getElem?_cons_zero] at d0))
  have HN1 : Hid (NT w1 w.heap.size p' v' m' (l.take 0) most) := hide hnt
  have HB1 := hide hb1
  clear hnt hb1 c0 c1 c2 d0
  go_loopw [22] (fun iv wr => ∃ (k : Nat) (v' : Value), k ≤ l.length ∧ iv = .int .i64 k ∧ NT wr w.heap.size p' v' m' (l.take k) most ∧ Below w.heap.size w wr) (fun iv _ => l.length - (intOf iv).toNat)
  case atStart => exact ⟨0, v', Nat.zero_le _, rfl, HN1.out, HB1.out⟩
  case round =>
    obtain ⟨k, v1, hk, rfl, hnt, hb⟩ := hrel
    have HNK := hide hnt
    have HBW := hide hb
    have hk0 : (0 : Int) ≤ (k : Int) := by omega
    have hk9 : (k : Int) ≤ 1048576 := by omega
    clear hnt hb
    by_cases hlt : k < l.length
    · obtain ⟨t, ht⟩ : ∃ t, l[k]? = some t := ⟨l[k], List.getElem?_eq_getElem hlt⟩
      obtain ⟨g, o, rfl, _, d0⟩ := (SeqS.below (SeqS.of_own HH.out.row) HBW.out).text ht
      have hki : (k : Int) < (l.length : Int) := by omega
      have HAD := hide (add_any w.heap.size p' m' v1 (l.take k) most t wr HNK.out HBW.out.size)
      have HE := hide (addRes_take HH.out ht)
      have HLT := hide hlt
      clear ht hlt
      go_wp2_with fail
      refine (HAD.out).mono ?_
      rintro _ w2 ⟨he, v2, hn2, ho2, _⟩
      rw [HE.out] at he hn2
      simp only at he
      subst he
      have HF : Hid (Below w.heap.size wr w2) := hide (foot_below HNK.out ho2 HBW.out.size)
      have HN2 := hide hn2
      clear hn2 ho2
      go_wp2_with fail
      go_roundw
      case rel => exact ⟨k + 1, v2, HLT.out, by go_num, HN2.out, HBW.out.trans HF.out⟩
      case measure => have := HLT.out; simp [intOf]; omega
    · obtain rfl : k = l.length := by omega
      have hki : ¬ (l.length : Int) < (l.length : Int) := by omega
      go_wp2_with fail
      go_ret
      exact ⟨p', v1, m', rfl, by have := HNK.out; rwa [List.take_length] at this, HBW.out⟩
set_option maxRecDepth 100000 in
set_option maxHeartbeats 4000000 in
theorem same_any {B2 p2 m2 : Nat} {v2 : Value} {l2 : List ByteArray} {most2 : Int} (h : NT w B p v m l most) (h2 : NT w B2 p2 v2 m2 l2 most2) :
    Calls Try.prog 16 #[.pointer (some ⟨p, 0, none⟩), .pointer (some ⟨p2, 0, none⟩)] w (SameP (.bool (decide (l = l2))) w) := by
  have hmf : ∀ (fn : Fn) (first cap : Array Value) (w : World), (Instr.makeFunc fn first cap).run Try.prog w = .ok (.func fn first cap) w := fun _ _ _ _ => rfl
  have c0 := h.cell 0
  have c1 := h.cell 1
  simp at c0 c1
  have e1 := h2.cell 1
  simp at e1
  obtain ⟨A, c, hv⟩ := own_shape h.row
  subst hv
  have HH := hide h
  have HH2 := hide h2
  have HFD : Hid (∀ s : ByteArray, s.size ≤ 64 → Calls Try.prog 22 #[.pointer (some ⟨p2, 0, none⟩), .string s] w (FindPost (findR l2 s).1 (findR l2 s).2 w)) := hide (fun s hs => find_any B2 p2 m2 v2 l2 most2 s w h2 (by unfold maxLen; omega))
  have HLA := hide (len_any h)
  have HLB := hide (len_any h2)
  have HNA : Hid (Calls Try.prog 39 #[.pointer (some ⟨p, 0, none⟩)] w (NonePost false w)) := hide (none_any p (some m) w c1)
  have HNB : Hid (Calls Try.prog 39 #[.pointer (some ⟨p2, 0, none⟩)] w (NonePost false w)) := hide (none_any p2 (some m2) w e1)
  have hl9 : (l.length : Int) ≤ 1048576 := by have := h.lenN; omega
  obtain ⟨r, hr⟩ : ∃ r, decide (l = l2) = r := ⟨_, rfl⟩
  have HR := hide hr
  rw [hr]
  clear h h2 hr
  go_enter Try.func16, Try.ntmps16
  go_wp2_with fail
  refine (HNA.out).mono ?_
  rintro _ _ ⟨rfl, rfl⟩
  go_wp2_with fail
  refine (HNB.out).mono ?_
  rintro _ _ ⟨rfl, rfl⟩
  go_wp2_with fail
  clear c0 c1 e1 HNA HNB
  go_loop [29] (fun iv => ∃ k : Nat, k ≤ l.length ∧ iv = .int .i64 k ∧ ∀ j t, j < k → l[j]? = some t → l2[j]? = some t) (fun iv => l.length - (intOf iv).toNat)
  case atStart => exact ⟨0, Nat.zero_le _, rfl, fun j t hj => absurd hj (by omega)⟩
  case round =>
    obtain ⟨k, hk, rfl, hno⟩ := hrel
    have HNO := hide hno
    clear hno
    have hk0 : (0 : Int) ≤ (k : Int) := by omega
    have hk9 : (k : Int) ≤ 1048576 := by omega
    by_cases hlt : k < l.length
    · obtain ⟨t, ht⟩ : ∃ t, l[k]? = some t := ⟨l[k], List.getElem?_eq_getElem hlt⟩
      obtain ⟨g, o, rfl, _, d0⟩ := (SeqS.of_own HH.out.row).text ht
      have hki : (k : Int) < (l.length : Int) := by omega
      have HF := hide (HFD.out t (HH.out.get_ok ht).2)
      have HT := hide ht
      have HLT := hide hlt
      by_cases hm : t ∈ l2
      · obtain ⟨i, hi, he⟩ := List.getElem_of_mem hm
        have hti : l2[i]? = some t := by rw [List.getElem?_eq_getElem hi, he]
        rw [findR_hit HH2.out.nodup hti] at HF
        simp only at HF
        by_cases hik : i = k
        · subst hik
          have HX : Hid (∀ j t, j < i + 1 → l[j]? = some t → l2[j]? = some t) := hide (fun j t' hj h1 => by
            rcases Nat.lt_or_ge j i with h2 | h2
            · exact HNO.out j t' h2 h1
            · obtain rfl : j = i := by omega
              rw [HT.out] at h1
              rw [← h1]; exact hti)
          clear ht hlt hm he hti
          go_wp2_with (go_at_call 22; refine (HF.out).mono ?_; rintro e _ ⟨rfl, rfl⟩)
          go_roundw
          case rel => exact ⟨i + 1, HLT.out, by go_num, HX.out⟩
          case measure => have := HLT.out; simp [intOf]; omega
        · have HV : Hid (r = false) := hide (by
            rw [← HR.out]
            refine decide_eq_false (fun e => hik ?_)
            have hn := HH2.out.nodup
            rw [e] at ht
            obtain ⟨h1, h3⟩ := List.getElem?_eq_some_iff.1 ht
            exact (List.getElem_inj hn).1 (he.trans h3.symm))
          have hik' : ((i : Int) == (k : Int)) = false := by rw [beq_eq_false_iff_ne]; omega
          clear ht hlt hm he hti hik
          go_wp2_with (go_at_call 22; refine (HF.out).mono ?_; rintro e _ ⟨rfl, rfl⟩)
          go_ret
          exact ⟨by rw [HV.out]; rfl, rfl⟩
      · rw [findR_miss hm] at HF
        simp only at HF
        have HV : Hid (r = false) := hide (by
          rw [← HR.out]
          exact decide_eq_false (fun e => hm (e ▸ List.mem_of_getElem? ht)))
        clear ht hlt hm
        go_wp2_with (go_at_call 22; refine (HF.out).mono ?_; rintro e _ ⟨rfl, rfl⟩)
        go_ret
        exact ⟨by rw [HV.out]; rfl, rfl⟩
    · obtain rfl : k = l.length := by omega
      have hki : ¬ (l.length : Int) < (l.length : Int) := by omega
      have HV : Hid (r = decide (l.length = l2.length)) := hide (by
        rw [← HR.out]
        by_cases hl : l.length = l2.length
        · rw [decide_eq_true hl]
          refine decide_eq_true (List.ext_getElem? (fun j => ?_))
          rcases Nat.lt_or_ge j l.length with h1 | h1
          · have := HNO.out j l[j] h1 (List.getElem?_eq_getElem h1)
            rw [this, List.getElem?_eq_getElem h1]
          · rw [List.getElem?_eq_none h1, List.getElem?_eq_none (by omega)]
        · rw [decide_eq_false hl]
          exact decide_eq_false (fun e => hl (by rw [e])))
      clear hlt
      go_wp2_with fail
      refine (HLA.out).mono ?_
      rintro _ _ ⟨rfl, rfl⟩
      go_wp2_with fail
      refine (HLB.out).mono ?_
      rintro _ _ ⟨rfl, rfl⟩
      go_wp2_with fail
      go_ret
      refine ⟨?_, rfl⟩
      show Ending.returned (Value.bool ((l.length : Int) == (l2.length : Int))) = _
      rw [HV.out]
      by_cases hl : l.length = l2.length
      · rw [hl]; simp
      · rw [decide_eq_false hl, show ((l.length : Int) == (l2.length : Int)) = false from by rw [beq_eq_false_iff_ne]; omega]
end
/-- Two lists of numbers that stand in memory. -/
theorem nats_eq {r t : List Nat} (hl : r.length = t.length) (h : ∀ j : Nat, j < r.length → r[j]? = t[j]?) : r = t := List.ext_getElem? (fun j => by
  rcases Nat.lt_or_ge j r.length with h1 | h1
  · exact h j h1
  · rw [List.getElem?_eq_none h1, List.getElem?_eq_none (by omega)])
set_option maxRecDepth 100000 in
set_option maxHeartbeats 4000000 in
theorem ints_any {w : World} {A1 A2 : Option Addr} {c1 c2 : Nat} {r t : List Nat} (h1 : Reads w w.heap.size 1 A1 r.length (nmV r)) (h2 : Reads w w.heap.size 1 A2 t.length (nmV t)) (hl : r.length ≤ 2000000) :
    Calls Try.prog 46 #[.slice A1 r.length c1, .slice A2 t.length c2] w (BelowPost (.bool (decide (r = t))) w) := by
  have HR1 := hide h1
  have HR2 := hide h2
  have hl9 : (r.length : Int) ≤ 2000000 := by omega
  obtain ⟨b, hb⟩ : ∃ b, decide (r = t) = b := ⟨_, rfl⟩
  have HB := hide hb
  rw [hb]
  clear h1 h2 hl hb
  by_cases hne : r.length = t.length
  · have HNE := hide hne
    have hn1 : ((r.length : Int) == (t.length : Int)) = true := by rw [hne]; simp
    clear hne
    go_enter Try.func46, Try.ntmps46
    go_wp2_with fail
    go_loopw [5] (fun iv wr => ∃ k : Nat, k ≤ r.length ∧ iv = .int .i64 k ∧ (∀ j : Nat, j < k → r[j]? = t[j]?) ∧ Below w.heap.size w wr) (fun iv _ => r.length - (intOf iv).toNat)
    case atStart => exact ⟨0, Nat.zero_le _, rfl, fun j hj => absurd hj (by omega), Below.refl _ _⟩
    case round =>
      obtain ⟨k, hk, rfl, hno, hbel⟩ := hrel
      have HNO := hide hno
      have HBW := hide hbel
      have hk0 : (0 : Int) ≤ (k : Int) := by omega
      have hk9 : (k : Int) ≤ 2000000 := by omega
      clear hno hbel
      by_cases hlt : k < r.length
      · obtain ⟨x, hx⟩ : ∃ x, r[k]? = some x := ⟨r[k], List.getElem?_eq_getElem hlt⟩
        obtain ⟨y, hy⟩ : ∃ y, t[k]? = some y := ⟨t[k]'(by have := HNE.out; omega), List.getElem?_eq_getElem _⟩
        obtain ⟨b1, o1, rfl, _, hc1⟩ := (HR1.out.below HBW.out).2 (by omega)
        obtain ⟨b2, o2, rfl, _, hc2⟩ := (HR2.out.below HBW.out).2 (by have := HNE.out; omega)
        have d1 := hc1 k (.int .i64 (x : Int)) (by unfold nmV; rw [List.getElem?_map, hx]; rfl)
        have d2 := hc2 k (.int .i64 (y : Int)) (by unfold nmV; rw [List.getElem?_map, hy]; rfl)
        have hki : (k : Int) < (r.length : Int) := by omega
        have hki2 : (k : Int) < (t.length : Int) := by have := HNE.out; omega
        have HLT := hide hlt
        clear hc1 hc2
        by_cases he : x = y
        · subst he
          have HX : Hid (∀ j : Nat, j < k + 1 → r[j]? = t[j]?) := hide (fun j hj => by
            rcases Nat.lt_or_ge j k with h1 | h1
            · exact HNO.out j h1
            · obtain rfl : j = k := by omega
              rw [hx, hy])
          have hee : ((x : Int) == (x : Int)) = true := by simp
          clear hx hy hlt
          go_wp2_with fail
          go_quiet (fail)
          go_wp2_with fail
          go_roundw
          case rel => exact ⟨k + 1, HLT.out, by go_num, HX.out, bel_drewN HBW.out _⟩
          case measure => have := HLT.out; simp [intOf]; omega
        · have hee : ((x : Int) == (y : Int)) = false := by rw [beq_eq_false_iff_ne]; omega
          have HV : Hid (b = false) := hide (by
            rw [← HB.out]
            exact decide_eq_false (fun e => he (by
              rw [e, hy] at hx
              injection hx with hx
              exact hx.symm)))
          clear hx hy hlt he
          go_wp2_with fail
          go_quiet (fail)
          go_wp2_with fail
          go_ret
          exact ⟨by rw [HV.out]; rfl, bel_drewN HBW.out _⟩
      · obtain rfl : k = r.length := by omega
        have hki : ¬ (r.length : Int) < (r.length : Int) := by omega
        have HV : Hid (b = true) := hide (by rw [← HB.out]; exact decide_eq_true (nats_eq HNE.out HNO.out))
        clear hlt
        go_wp2_with fail
        go_ret
        exact ⟨by rw [HV.out]; rfl, HBW.out⟩
  · have HV : Hid (b = false) := hide (by rw [← HB.out]; exact decide_eq_false (fun e => hne (by rw [e])))
    have hn1 : ((r.length : Int) == (t.length : Int)) = false := by rw [beq_eq_false_iff_ne]; omega
    clear hne
    go_enter Try.func46, Try.ntmps46
    go_wp2_with fail
    go_ret
    exact ⟨by rw [HV.out]; rfl, Below.refl _ _⟩
end Go.Proofs.Ytkidefmkgcankaa
