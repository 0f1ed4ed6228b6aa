/- The walk of the law's lists: Begins and Sorted, in memory of their own. -/
import Derived.Test.YtkidefmkgcankaaCpy
import Derived.Test.YtkidefmkgcankaaWl6
namespace Go.Proofs.Ytkidefmkgcankaa
open Go.RowKit Go.Maps Go.Shelf
open Go.ChangeMaps Go.WideMaps
/-- A row of numbers that is being wiped. -/
structure Wipe (w0 : World) (v : Value) (n : Nat) (W : World) : Prop where
  row : (v = .slice none 0 0 ∧ n = 0) ∨ ∃ g cap cur, v = .slice (some ⟨g, 0, none⟩) n cap ∧ W.heap[g]? = some (.cells cur 3 (0, 0)) ∧ n ≤ cur.size
  only : Only (fun k => v.ownBlock = some k) w0 W
theorem Wipe.of_own {w0 : World} {B n : Nat} {v : Value} {xs : List Value} (h : w0.ownsRow B 3 1 v n xs) : Wipe w0 v n w0 := by
  refine ⟨?_, Only.refl _ _⟩
  rcases h.2 with h1 | ⟨g, cap, cur, h1, _, h3, h4, _, h5, _⟩
  · exact .inl h1
  · exact .inr ⟨g, cap, cur, h1, h3, by rw [h5]; omega⟩
theorem Wipe.at_ {w0 W : World} {n k : Nat} {v : Value} (h : Wipe w0 v n W) (hk : k < n) : ∃ g o cap, v = .slice (some ⟨g, o, none⟩) n cap ∧ (∃ u, W.cell? ⟨g, o + k, none⟩ = some u) ∧ W.frozen? ⟨g, o + k, none⟩ = false ∧ ∀ x, Wipe w0 v n (W.setCell ⟨g, o + k, none⟩ x) := by
  rcases h.row with ⟨_, h1⟩ | ⟨g, cap, cur, h1, h2, h3⟩
  · omega
  · refine ⟨g, 0, cap, h1, ⟨cur[k]'(by omega), ?_⟩, frozen_of_row W g _ _ _ h2, fun x => ⟨.inr ⟨g, cap, _, h1, setCell_block h2 (0 + k) x, by simpa using h3⟩, Only.set h.only _ (by rw [h1]; rfl) x⟩⟩
    rw [cell_of_row W g (0 + k) _ _ (0, 0) h2, Nat.zero_add]
    exact Array.getElem?_eq_getElem _
theorem own_le {w : World} {B e size n : Nat} {v : Value} {xs : List Value} (h : w.ownsRow B e size v n xs) : ∀ g, v.ownBlock = some g → B ≤ g ∧ g < w.heap.size := fun g hg => h.lt g hg
theorem ints_same {w : World} {B1 B2 : Nat} {A1 A2 : Option Addr} {c1 c2 : Nat} {r : List Nat} (h1 : w.ownsRow B1 3 1 (.slice A1 r.length c1) r.length (nmV r)) (h2 : w.ownsRow B2 3 1 (.slice A2 r.length c2) r.length (nmV r)) (hl : r.length ≤ 2000000) :
    Calls Try.prog 46 #[.slice A1 r.length c1, .slice A2 r.length c2] w (BelowPost (.bool true) w) := by
  have := ints_any (c1 := c1) (c2 := c2) (Reads.of_own h1) (Reads.of_own h2) hl
  rwa [decide_eq_true rfl] at this
section
variable {w w' : World} {B p m q B2 : Nat} {v vq : Value} {l : List ByteArray} {most most2 : Int}
theorem DocT.lt (h : DocT w B q vq l most) : ∀ k, (k = q ∨ vq.ownBlock = some k) → k < w.heap.size := by
  rintro k (rfl | hk)
  · exact lt_of_block h.blk
  · exact (h.row.at_ k hk).2
set_option maxRecDepth 100000 in
set_option maxHeartbeats 8000000 in
theorem lists_any (h : NT w B p v m l most) (hd : DocT w B2 q vq l most2) (s : ByteArray) : Calls Try.prog 34 #[.pointer (some ⟨p, 0, none⟩), .pointer (some ⟨q, 0, none⟩), .string s] w (BelowPost (.bool true) w) := by
  have hl : l.length ≤ 2000000 := by have := h.lenN; omega
  have HN := hide h
  have HD := hide hd
  have HL := hide hl
  have HND := hide h.nodup
  have HB1 := hide (begins_any h s)
  clear h hd hl
  go_enter Try.func34, Try.ntmps34
  go_wp2_with fail
  refine (HB1.out).mono ?_
  rintro _ w1 ⟨va, r, rfl, hr, hoa, hb1⟩
  have HB2 := hide (begins_any (HN.out.below hb1) s)
  obtain ⟨Aa, ca, rfl⟩ := own_shape hoa
  have HOA := hide hoa
  have HW1 := hide hb1
  have HR := hide hr
  clear hoa hb1 hr
  go_wp2_with fail
  refine (HB2.out).mono ?_
  rintro _ w2 ⟨vb, r', rfl, hr', hob, hb2⟩
  obtain rfl := HR.out.uniq hr'
  obtain ⟨Ab, cb, rfl⟩ := own_shape hob
  have HOB := hide hob
  have HW2 := hide hb2
  have HW2' := hide (HW1.out.trans (hb2.mono HW1.out.size))
  clear hob hb2 hr'
  have HB3 := hide (sortedT_any (HN.out.below HW2'.out))
  go_wp2_with fail
  refine (HB3.out).mono ?_
  rintro _ w3 ⟨vc, z, rfl, hz, hoc, hb3⟩
  obtain ⟨Ac, cc, rfl⟩ := own_shape hoc
  have HOC := hide hoc
  have HW3 := hide hb3
  have HW3' := hide (HW2'.out.trans (hb3.mono HW2'.out.size))
  have HZ := hide hz
  clear hoc hb3 hz
  have HB4 := hide (sortedT_any (HN.out.below HW3'.out))
  go_wp2_with fail
  refine (HB4.out).mono ?_
  rintro _ w4 ⟨vd, z', rfl, hz', hod, hb4⟩
  obtain rfl := HZ.out.uniq hz'
  obtain ⟨Ad, cd, rfl⟩ := own_shape hod
  have HW4 := hide (HW3'.out.trans (hb4.mono HW3'.out.size))
  have HOD := hide hod
  have HO4 : Hid (w4.ownsRow w.heap.size 3 1 (.slice Aa r.length ca) r.length (nmV r) ∧ w4.ownsRow w1.heap.size 3 1 (.slice Ab r.length cb) r.length (nmV r) ∧ w4.ownsRow w2.heap.size 3 1 (.slice Ac z.length cc) z.length (nmV z) ∧ w4.ownsRow w3.heap.size 3 1 (.slice Ad z.length cd) z.length (nmV z)) := hide
    ⟨own_below (own_below (own_below HOA.out HW2.out (Nat.le_refl _)) HW3.out (Nat.le_refl _)) hb4 (Nat.le_refl _), own_below (own_below HOB.out HW3.out (Nat.le_refl _)) hb4 (Nat.le_refl _), own_below HOC.out hb4 (Nat.le_refl _), hod⟩
  have HAP : Hid ((∀ g, (Value.slice Aa r.length ca).ownBlock = some g → w.heap.size ≤ g ∧ g < w1.heap.size) ∧ (∀ g, (Value.slice Ab r.length cb).ownBlock = some g → w1.heap.size ≤ g ∧ g < w2.heap.size) ∧ (∀ g, (Value.slice Ac z.length cc).ownBlock = some g → w2.heap.size ≤ g ∧ g < w3.heap.size) ∧ (∀ g, (Value.slice Ad z.length cd).ownBlock = some g → w3.heap.size ≤ g)) := hide
    ⟨own_le HOA.out, own_le HOB.out, own_le HOC.out, fun g hg => (own_le hod g hg).1⟩
  have HZS : Hid (w.heap.size ≤ w1.heap.size ∧ w1.heap.size ≤ w2.heap.size ∧ w2.heap.size ≤ w3.heap.size ∧ w3.heap.size ≤ w4.heap.size) := hide ⟨HW1.out.size, HW2.out.size, HW3.out.size, hb4.size⟩
  have HRL : Hid (begD l s.data.toList l.length = r ∧ r.length ≤ 2000000 ∧ begD l ([] : List UInt8) l.length = z ∧ z.length ≤ 2000000) := hide ⟨(begD_of HND.out _).uniq HR.out, by have := HR.out.len; have := HL.out; omega, (begD_of HND.out _).uniq HZ.out, by have := HZ.out.len; have := HL.out; omega⟩
  clear hod hb4 hz' HOA HOB HOC HOD HW1 HW2 HW2' HW3 HW3' HB1 HB2 HB3 HB4 HR HZ
  have HQ : Hid (∀ (W : World), DocT W B2 q vq l most2 → Calls Try.prog 45 #[.pointer (some ⟨q, 0, none⟩), .string s] W (fun e w' => ∃ v, e = .returned v ∧ w'.ownsRow W.heap.size 3 1 v r.length (nmV r) ∧ Below W.heap.size W w')) := hide (fun W h => by
    have := docBegins_any h HL.out s
    unfold BegQ at this
    rwa [HRL.out.1] at this)
  have HQ0 : Hid (∀ (W : World), DocT W B2 q vq l most2 → Calls Try.prog 45 #[.pointer (some ⟨q, 0, none⟩), .string ⟨#[]⟩] W (fun e w' => ∃ v, e = .returned v ∧ w'.ownsRow W.heap.size 3 1 v z.length (nmV z) ∧ Below W.heap.size W w')) := hide (fun W h => by
    have := docBegins_any h HL.out ⟨#[]⟩
    unfold BegQ at this
    rwa [show (⟨#[]⟩ : ByteArray).data.toList = ([] : List UInt8) from rfl, HRL.out.2.2.1] at this)
  have HDW := hide (HD.out.below HW4.out)
  have HC5 := hide (HQ.out w4 HDW.out)
  go_wp2_with fail
  refine (HC5.out).mono ?_
  rintro _ w5 ⟨v5, rfl, ho5, hb5⟩
  obtain ⟨A5, c5, rfl⟩ := own_shape ho5
  have HB5 := hide hb5
  have HI := hide (ints_same (own_below HO4.out.1 hb5 (Nat.le_refl _)) ho5 HRL.out.2.1)
  clear ho5 hb5
  go_wp2_with fail
  refine (HI.out).mono ?_
  rintro _ w6 ⟨rfl, hb6⟩
  have HB6 := hide (HB5.out.trans (hb6.mono HB5.out.size))
  clear hb6
  have HC6 := hide (HQ0.out w6 (HDW.out.below HB6.out))
  go_wp2_with fail
  refine (HC6.out).mono ?_
  rintro _ w7 ⟨v7, rfl, ho7, hb7⟩
  obtain ⟨A7, c7, rfl⟩ := own_shape ho7
  have HB7 := hide (HB6.out.trans (hb7.mono HB6.out.size))
  have HI2 := hide (ints_same (own_below HO4.out.2.2.1 HB7.out (Nat.le_refl _)) ho7 HRL.out.2.2.2)
  clear ho7 hb7
  go_wp2_with fail
  refine (HI2.out).mono ?_
  rintro _ w8 ⟨rfl, hb8⟩
  have HB8 := hide (HB7.out.trans (hb8.mono HB7.out.size))
  clear hb8
  go_wp2_with fail
  have HO8 : Hid (w8.ownsRow w.heap.size 3 1 (.slice Aa r.length ca) r.length (nmV r) ∧ w8.ownsRow w1.heap.size 3 1 (.slice Ab r.length cb) r.length (nmV r) ∧ w8.ownsRow w2.heap.size 3 1 (.slice Ac z.length cc) z.length (nmV z) ∧ w8.ownsRow w3.heap.size 3 1 (.slice Ad z.length cd) z.length (nmV z)) := hide
    ⟨own_below HO4.out.1 HB8.out (Nat.le_refl _), own_below HO4.out.2.1 HB8.out (Nat.le_refl _), own_below HO4.out.2.2.1 HB8.out (Nat.le_refl _), own_below HO4.out.2.2.2 HB8.out (Nat.le_refl _)⟩
  have HD8 := hide (HDW.out.below HB8.out)
  have HW8 := hide (HW4.out.trans (HB8.out.mono HW4.out.size))
  clear HI HI2 HC5 HC6 HB5 HB6 HB7
  have hrl9 : (r.length : Int) ≤ 2000000 := by have := HRL.out.2.1; omega
  have hzl9 : (z.length : Int) ≤ 2000000 := by have := HRL.out.2.2.2; omega
  go_loopw [11] (fun iv W => ∃ k : Nat, k ≤ r.length ∧ iv = .int .i64 k ∧ Wipe w8 (.slice Aa r.length ca) r.length W) (fun iv _ => r.length - (intOf iv).toNat)
  case atStart => exact ⟨0, Nat.zero_le _, rfl, Wipe.of_own HO8.out.1⟩
  case round =>
    rename World => wr
    obtain ⟨k, hk, rfl, hwp⟩ := hrel
    have hk0 : (0 : Int) ≤ (k : Int) := by omega
    have hk9 : (k : Int) ≤ 2000000 := by omega
    by_cases hlt : k < r.length
    · obtain ⟨g, o, cap, he, ⟨u, d0⟩, f0, hset⟩ := hwp.at_ hlt
      injection he with he1 he2 he3
      subst he1
      have hki : (k : Int) < (r.length : Int) := by omega
      have HLT := hide hlt
      have HS := hide hset
      clear hwp hset hlt
      go_wp2_with fail
      go_roundw
      case rel => exact ⟨k + 1, HLT.out, by go_num, HS.out _⟩
      case measure => have := HLT.out; simp [intOf]; omega
    · obtain rfl : k = r.length := by omega
      have hki : ¬ (r.length : Int) < (r.length : Int) := by omega
      have HP := hide hwp
      clear hwp hlt
      go_wp2_with fail
      have HOR : Hid (wr.ownsRow w1.heap.size 3 1 (.slice Ab r.length cb) r.length (nmV r) ∧ wr.ownsRow w2.heap.size 3 1 (.slice Ac z.length cc) z.length (nmV z) ∧ wr.ownsRow w3.heap.size 3 1 (.slice Ad z.length cd) z.length (nmV z)) := hide
        ⟨own_only HO8.out.2.1 HP.out.only (fun g hg e => by have := HAP.out.1 g e; have := HAP.out.2.1 g hg; omega), own_only HO8.out.2.2.1 HP.out.only (fun g hg e => by have := HAP.out.1 g e; have := HAP.out.2.2.1 g hg; have := HZS.out; omega), own_only HO8.out.2.2.2 HP.out.only (fun g hg e => by have := HAP.out.1 g e; have := HAP.out.2.2.2 g hg; have := HZS.out; omega)⟩
      have HDR := hide (HD8.out.only HP.out.only (fun k hk e => by have := HAP.out.1 k e; have := HD.out.lt k hk; omega))
      have HWR : Hid (Below w.heap.size w wr) := hide (HW8.out.trans (HP.out.only.below HW8.out.size (fun k e => (HAP.out.1 k e).1)))
      go_loopw [12] (fun iv W => ∃ k : Nat, k ≤ z.length ∧ iv = .int .i64 k ∧ Wipe wr (.slice Ac z.length cc) z.length W) (fun iv _ => z.length - (intOf iv).toNat)
      case atStart => exact ⟨0, Nat.zero_le _, rfl, Wipe.of_own HOR.out.2.1⟩
      case round =>
        rename World => wq
        obtain ⟨j, hj, rfl, hwp⟩ := hrel
        have hj0 : (0 : Int) ≤ (j : Int) := by omega
        have hj9 : (j : Int) ≤ 2000000 := by omega
        by_cases hlt : j < z.length
        · obtain ⟨g, o, cap, he, ⟨u, d0⟩, f0, hset⟩ := hwp.at_ hlt
          injection he with he1 he2 he3
          subst he1
          have hji : (j : Int) < (z.length : Int) := by omega
          have HLT := hide hlt
          have HS := hide hset
          clear hwp hset hlt
          go_wp2_with fail
          go_roundw
          case rel => exact ⟨j + 1, HLT.out, by go_num, HS.out _⟩
          case measure => have := HLT.out; simp [intOf]; omega
        · obtain rfl : j = z.length := by omega
          have hji : ¬ (z.length : Int) < (z.length : Int) := by omega
          have HP2 := hide hwp
          clear hwp hlt
          have HOQ : Hid (wq.ownsRow w1.heap.size 3 1 (.slice Ab r.length cb) r.length (nmV r) ∧ wq.ownsRow w3.heap.size 3 1 (.slice Ad z.length cd) z.length (nmV z)) := hide
            ⟨own_only HOR.out.1 HP2.out.only (fun g hg e => by have := HAP.out.2.2.1 g e; have := HAP.out.2.1 g hg; have := HZS.out; omega), own_only HOR.out.2.2 HP2.out.only (fun g hg e => by have := HAP.out.2.2.1 g e; have := HAP.out.2.2.2 g hg; have := HZS.out; omega)⟩
          have HDQ := hide (HDR.out.only HP2.out.only (fun k hk e => by have := HAP.out.2.2.1 k e; have := HD.out.lt k hk; have := HZS.out; omega))
          have HWQ : Hid (Below w.heap.size w wq) := hide (HWR.out.trans (HP2.out.only.below HWR.out.size (fun k e => by have := HAP.out.2.2.1 k e; have := HZS.out; omega)))
          have HC5 := hide (HQ.out wq HDQ.out)
          go_wp2_with fail
          refine (HC5.out).mono ?_
          rintro _ w5 ⟨v5, rfl, ho5, hb5⟩
          obtain ⟨A5, c5, rfl⟩ := own_shape ho5
          have HB5 := hide hb5
          have HI := hide (ints_same (own_below HOQ.out.1 hb5 (Nat.le_refl _)) ho5 HRL.out.2.1)
          clear ho5 hb5
          go_wp2_with fail
          refine (HI.out).mono ?_
          rintro _ w6 ⟨rfl, hb6⟩
          have HB6 := hide (HB5.out.trans (hb6.mono HB5.out.size))
          clear hb6
          have HC6 := hide (HQ0.out w6 (HDQ.out.below HB6.out))
          go_wp2_with fail
          refine (HC6.out).mono ?_
          rintro _ w7 ⟨v7, rfl, ho7, hb7⟩
          obtain ⟨A7, c7, rfl⟩ := own_shape ho7
          have HB7 := hide (HB6.out.trans (hb7.mono HB6.out.size))
          have HI2 := hide (ints_same (own_below HOQ.out.2 HB7.out (Nat.le_refl _)) ho7 HRL.out.2.2.2)
          clear ho7 hb7
          go_wp2_with fail
          refine (HI2.out).mono ?_
          rintro _ w8' ⟨rfl, hb8⟩
          have HB9 := hide (HB7.out.trans (hb8.mono HB7.out.size))
          clear hb8
          go_wp2_with fail
          go_ret
          exact ⟨rfl, HWQ.out.trans (HB9.out.mono HWQ.out.size)⟩
end
end Go.Proofs.Ytkidefmkgcankaa
