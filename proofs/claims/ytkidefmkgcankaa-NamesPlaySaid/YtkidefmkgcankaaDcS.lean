/- The walks of the document's Short and Same. -/
import Derived.Test.YtkidefmkgcankaaDcB
import Derived.Test.YtkidefmkgcankaaThere
namespace Go.Proofs.Ytkidefmkgcankaa
open Go.RowKit Go.Maps Go.Shelf
open Go.ChangeMaps Go.WideMaps
section
variable {w w' : World} {B q : Nat} {v : Value} {l : List ByteArray} {most : Int}
set_option maxRecDepth 100000 in
set_option maxHeartbeats 2000000 in
theorem docShort_bad (h : DocT w B q v l most) (n : Int) (hn : n < 0 ∨ (l.length : Int) ≤ n) : Calls Try.prog 33 #[.pointer (some ⟨q, 0, none⟩), .int .i64 n] w (SameP (.tuple #[.int .i64 0, .bool false]) w) := by
  obtain ⟨A, c, hv, _⟩ := h.row.rd
  subst hv
  obtain ⟨c0, c1⟩ := h.cells
  by_cases h0 : n < 0
  · clear h hn
    go_enter Try.func33, Try.ntmps33
    go_wp2_with fail
    go_ret2
    exact ⟨rfl, rfl⟩
  · have h1 : (l.length : Int) ≤ n := by omega
    clear h hn
    go_enter Try.func33, Try.ntmps33
    go_wp2_with fail
    go_ret2
    exact ⟨rfl, rfl⟩
set_option maxRecDepth 100000 in
set_option maxHeartbeats 4000000 in
theorem docShort_any (h : DocT w B q v l most) (hl : l.length ≤ 2000000) (hnd : l.Nodup) (n : Nat) (nm : ByteArray) (hn : l[n]? = some nm) (hsz : 1 ≤ nm.size ∧ nm.size ≤ 64) :
    Calls Try.prog 33 #[.pointer (some ⟨q, 0, none⟩), .int .i64 (n : Int)] w (BelowPost (.tuple #[.int .i64 (shN l n l.length : Nat), .bool true]) w) := by
  obtain ⟨A, c, hv, _⟩ := h.row.rd
  subst hv
  have hnl := (List.getElem?_eq_some_iff.1 hn).1
  have hnm : nmB l n = nm.data.toList := nmB_of hn
  have hlen : (nmB l n).length = nm.size := by rw [hnm]; rfl
  obtain ⟨g, o, rfl, _, d0⟩ := h.row.text hn
  have hsh := shN_le (l := l) (n := n) (by rw [hlen]; exact hsz.1) l.length
  rw [hlen] at hsh
  have HM : Hid (∀ k, 1 ≤ k → k < shN l n l.length → 2 ≤ (begD l (nm.extract 0 k).data.toList l.length).length) := hide (fun k h1 h2 => by
    refine short_more hnl (by rw [hlen]; exact hsz.1) rfl h1 h2 ?_
    rw [cut_bytes, hnm]; exact begD_of hnd _)
  have HO : Hid (shN l n l.length < nm.size → (begD l (nm.extract 0 (shN l n l.length)).data.toList l.length).length = 1) := hide (fun h2 => by
    refine short_is hnd hnl (by rw [hlen]; exact hsz.1) rfl (by rw [hlen]; exact h2) ?_
    rw [cut_bytes, hnm]; exact begD_of hnd _)
  generalize shN l n l.length = e at *
  have HD := hide h
  have HL := hide hl
  have HS := hide hsh
  have hni : ¬ (n : Int) < 0 := by omega
  have hni0 : (0 : Int) ≤ (n : Int) := by omega
  have hnl' : ¬ (l.length : Int) ≤ (n : Int) := by omega
  have hnl2 : (n : Int) < (l.length : Int) := by omega
  obtain ⟨c0, c1⟩ := h.cells
  have hs6 := hsz.2
  clear h hnm hlen hn hl hnd hsh
  go_enter Try.func33, Try.ntmps33
  go_wp2_with fail
  clear c0 c1 d0
  go_loopw [7] (fun iv wr => ∃ k : Nat, 1 ≤ k ∧ k ≤ e ∧ iv = .int .i64 k ∧ Below w.heap.size w wr) (fun iv _ => nm.size - (intOf iv).toNat)
  case atStart => exact ⟨1, Nat.le_refl _, HS.out.1, rfl, Below.refl _ _⟩
  case round =>
    obtain ⟨k, hk1, hke, rfl, hb⟩ := hrel
    have HDR := hide (HD.out.below hb)
    have HBW := hide hb
    have hk0 : (0 : Int) ≤ (k : Int) := by omega
    have hk9 : (k : Int) ≤ 64 := by have := HS.out.2; omega
    clear hb
    by_cases hlt : k < nm.size
    · have HBC := hide (docBegins_any HDR.out HL.out (nm.extract 0 k))
      have hki : (k : Int) < (nm.size : Int) := by omega
      have HLT := hide hlt
      have HK1 := hide hk1
      by_cases he : k < e
      · have hm := HM.out k hk1 he
        unfold BegQ at HBC
        generalize begD l (nm.extract 0 k).data.toList l.length = r at *
        have hm1 : (((r.length : Nat) : Int) == 1) = false := by rw [beq_eq_false_iff_ne]; omega
        have HE := hide he
        clear he hm
        go_wp2_with fail
        refine (HBC.out).mono ?_
        rintro _ w2 ⟨v2, rfl, ho2, hb2⟩
        obtain ⟨A2, cc2, rfl⟩ := own_shape ho2
        have HB2 := hide hb2
        clear ho2 hb2
        go_wp2_with fail
        go_roundw
        case rel => exact ⟨k + 1, by omega, HE.out, by go_num, HBW.out.trans (HB2.out.mono HBW.out.size)⟩
        case measure => have := HLT.out; simp [intOf]; omega
      · obtain rfl : k = e := by omega
        have hm := HO.out hlt
        unfold BegQ at HBC
        generalize begD l (nm.extract 0 k).data.toList l.length = r at *
        have hm1 : (((r.length : Nat) : Int) == 1) = true := by rw [hm]; rfl
        clear he hm
        go_wp2_with fail
        refine (HBC.out).mono ?_
        rintro _ w2 ⟨v2, rfl, ho2, hb2⟩
        obtain ⟨A2, cc2, rfl⟩ := own_shape ho2
        have HB2 := hide hb2
        clear ho2 hb2
        go_wp2_with fail
        go_ret2
        exact ⟨rfl, HBW.out.trans (HB2.out.mono HBW.out.size)⟩
    · obtain rfl : e = nm.size := by have := HS.out.2; omega
      obtain rfl : k = nm.size := by omega
      have hki : ¬ (nm.size : Int) < (nm.size : Int) := by omega
      go_wp2_with fail
      go_ret2
      exact ⟨rfl, HBW.out⟩
set_option maxRecDepth 100000 in
set_option maxHeartbeats 4000000 in
theorem docSame_any {B2 q2 : Nat} {v2 : Value} {l2 : List ByteArray} {most2 : Int} (h : DocT w B q v l most) (h2 : DocT w B2 q2 v2 l2 most2) (hl : l.length ≤ 2000000) (hl2 : l2.length ≤ 2000000) :
    Calls Try.prog 37 #[.pointer (some ⟨q, 0, none⟩), .pointer (some ⟨q2, 0, none⟩)] w (BelowPost (.bool (decide (l = l2))) w) := by
  obtain ⟨A, c, hv, _⟩ := h.row.rd
  subst hv
  obtain ⟨A2, cc2, hv2, _⟩ := h2.row.rd
  subst hv2
  obtain ⟨c0, _⟩ := h.cells
  obtain ⟨c2, _⟩ := h2.cells
  by_cases hne : l.length = l2.length
  · have HD := hide h
    have HD2 := hide h2
    have HL := hide (And.intro hl hl2)
    have hn1 : ((l.length : Int) != (l2.length : Int)) = false := by rw [hne]; simp
    have HNE := hide hne
    clear h h2 hl hl2 hne
    go_enter Try.func37, Try.ntmps37
    go_wp2_with fail
    go_quiet (fail)
    go_wp2_with fail
    clear c0 c2
    have HB0 : Hid (Below w.heap.size w (w.drewN nq)) := hide (bel_drewN (Below.refl _ _) nq)
    generalize w.drewN nq = w1 at *
    go_loopw [5] (fun iv wr => ∃ k : Nat, k ≤ l.length ∧ iv = .int .i64 k ∧ (∀ j : Nat, j < k → l[j]? = l2[j]?) ∧ Below w.heap.size w wr) (fun iv _ => l.length - (intOf iv).toNat)
    case atStart => exact ⟨0, Nat.zero_le _, rfl, fun j hj => absurd hj (by omega), HB0.out⟩
    case round =>
      obtain ⟨k, hk, rfl, hsame, hb⟩ := hrel
      have HDR := hide (HD.out.below hb)
      have HDR2 := hide (HD2.out.below hb)
      have HBW := hide hb
      have HSM := hide hsame
      obtain ⟨c0, _⟩ := HDR.out.cells
      obtain ⟨c2, _⟩ := HDR2.out.cells
      have hk0 : (0 : Int) ≤ (k : Int) := by omega
      have hk9 : (k : Int) ≤ 2000000 := by have := HL.out.1; omega
      clear hb hsame
      by_cases hlt : k < l.length
      · obtain ⟨t, ht⟩ : ∃ t, l[k]? = some t := ⟨l[k], List.getElem?_eq_getElem hlt⟩
        obtain ⟨t2, ht2⟩ : ∃ t2, l2[k]? = some t2 := ⟨l2[k]'(by have := HNE.out; omega), List.getElem?_eq_getElem _⟩
        obtain ⟨g, o, rfl, _, d0⟩ := HDR.out.row.text ht
        obtain ⟨g2, o2, rfl, _, d2⟩ := HDR2.out.row.text ht2
        have hki : (k : Int) < (l.length : Int) := by omega
        have hki2 : (k : Int) < (l2.length : Int) := by have := HNE.out; omega
        have HLT := hide hlt
        by_cases he : t2 = t
        · subst he
          have HX : Hid (∀ j : Nat, j < k + 1 → l[j]? = l2[j]?) := hide (fun j hj => by
            rcases Nat.lt_or_ge j k with h1 | h1
            · exact HSM.out j h1
            · obtain rfl : j = k := by omega
              rw [ht, ht2])
          have hee : (t2.toList != t2.toList) = false := by simp
          have hee2 : (t2.toList == t2.toList) = true := by simp
          clear ht ht2 hlt
          go_wp2_with fail
          go_quiet (fail)
          go_wp2_with fail
          go_roundw
          case rel => exact ⟨k + 1, HLT.out, by go_num, HX.out, bel_drewN HBW.out _⟩
          case measure => have := HLT.out; simp [intOf]; omega
        · have hee : (t.toList == t2.toList) = false := ne_bytes (fun e => he e.symm)
          have HV : Hid (decide (l = l2) = false) := hide (decide_eq_false (fun e => he (by
            rw [e, ht2] at ht
            injection ht)))
          clear ht ht2 hlt he
          go_wp2_with fail
          go_quiet (fail)
          go_wp2_with fail
          go_ret
          rw [HV.out]
          exact ⟨rfl, bel_drewN HBW.out _⟩
      · obtain rfl : k = l.length := by omega
        have hki : ¬ (l.length : Int) < (l.length : Int) := by omega
        have HV : Hid (decide (l = l2) = true) := hide (decide_eq_true (List.ext_getElem? (fun j => by
          rcases Nat.lt_or_ge j l.length with h1 | h1
          · exact HSM.out j h1
          · rw [List.getElem?_eq_none h1, List.getElem?_eq_none (by have := HNE.out; omega)])))
        clear hlt
        go_wp2_with fail
        go_ret
        rw [HV.out]
        exact ⟨rfl, HBW.out⟩
  · have HV : Hid (decide (l = l2) = false) := hide (decide_eq_false (fun e => hne (by rw [e])))
    have hn1 : ((l.length : Int) != (l2.length : Int)) = true := by rw [bne_iff_ne]; omega
    clear h h2 hl hl2 hne
    go_enter Try.func37, Try.ntmps37
    go_wp2_with fail
    go_quiet (fail)
    go_wp2_with fail
    go_ret
    rw [HV.out]
    exact ⟨rfl, bel_drewN (Below.refl _ _) _⟩
end
end Go.Proofs.Ytkidefmkgcankaa
