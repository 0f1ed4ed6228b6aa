/- The walk of the laws' helper worth: what a choice is worth, if it is one. -/
import Derived.Test.YtkjmpenaifhfjaaAllP
import Derived.Test.YtkjmpenaifhfjaaClearY
import Derived.Test.YtkjmpenaifhfjaaPart
namespace Go.Proofs.Ytkjmpenaifhfjaa
open Go.RowKit Go.Maps

def fitV : Option Int → Value
  | some v => .tuple #[.int .i64 v, .bool true]
  | none => .tuple #[.int .i64 0, .bool false]
theorem fitW_len : ∀ (ls : List (List Offer)) (c : List Int) (t : Nat) (s : Int), c.length ≠ ls.length → fitW ls c t s = none
  | [], [], _, _, h => absurd rfl h
  | [], _ :: _, _, _, _ => rfl
  | _ :: _, [], _, _, _ => rfl
  | l :: ls, n :: c, t, s, h => by
    have h' : c.length ≠ ls.length := fun e => h (by simp [e])
    simp only [fitW, fitW_len ls c _ _ h']
    split
    · rfl
    · split
      · rfl
      · split <;> rfl
/-- One buyer's number. -/
theorem fitW_step {ls : List (List Offer)} {c : List Int} {k : Nat} {l : List Offer} {n : Int} (hl : ls[k]? = some l) (hc : c[k]? = some n) (t : Nat) (s : Int) :
    fitW (ls.drop k) (c.drop k) t s = if n < -1 ∨ (l.length : Int) ≤ n then none else if n < 0 then fitW (ls.drop (k + 1)) (c.drop (k + 1)) t s else if ((l[n.toNat]?).getD (0, 0)).1 &&& t = 0 then fitW (ls.drop (k + 1)) (c.drop (k + 1)) (t ||| ((l[n.toNat]?).getD (0, 0)).1) (s + ((l[n.toNat]?).getD (0, 0)).2) else none := by
  obtain ⟨h1, rfl⟩ := List.getElem?_eq_some_iff.1 hl
  obtain ⟨h2, rfl⟩ := List.getElem?_eq_some_iff.1 hc
  rw [List.drop_eq_getElem_cons h1, List.drop_eq_getElem_cons h2]
  rfl

set_option maxRecDepth 100000 in
set_option maxHeartbeats 4000000 in
theorem worth_any (n : Int) (A : Option Addr) (c : Nat) (hs : List Hdr) (ls : List (List Offer)) (Z : Option Addr) (zc : Nat) (zs : List Int) (w : World) (h : Buys w w.heap.size A hs ls) (hI : GoodI n ls) (hz : One intV w w.heap.size Z zs) (hzl : (zs.length : Int) ≤ 9223372036854775807) :
    Calls Try.prog 25 #[instV n A ls.length c, .slice Z zs.length zc] w (ValPost (fitV (fitW ls zs 0 0)) w) := by
  have HB : Hid (Below w.heap.size w (w.alloc (.cells #[.int .i64 n, .slice A ls.length c] 24))) := hide ((Below.refl _ _).alloc (Nat.le_refl _) _)
  have HX : Hid ((w.alloc (.cells #[.int .i64 n, .slice A ls.length c] 24)).heap[w.heap.size]? = some (.cells #[.int .i64 n, .slice A ls.length c] 24 (0, 0))) := hide (heap_alloc_new w _)
  have hfew : ls.length ≤ 32 := hI.few
  have HTP : Hid (2 ^ n.toNat ≤ 1024) := hide (pow_small n hI.hi)
  have HG := hide hI
  have HA := hide h
  have HZ := hide hz
  clear h hI hz
  simp only [instV]
  by_cases hlen : zs.length = ls.length
  · have HLEN := hide hlen
    have hne : (((zs.length : Nat) : Int) != (ls.length : Int)) = false := by simp; omega
    clear hlen
    go_enter Try.func25, Try.ntmps25
    go_upto_region 1 with fail
    generalize w.alloc (.cells #[.int .i64 n, .slice A ls.length c] 24) = w1 at *
    have x1 := cell_of_row w1 w.heap.size 1 _ _ (0, 0) HX.out
    simp at x1
    go_wp2_with fail
    go_loopw [6, 7, 8] (fun sv tv iv wr => ∃ (k t : Nat) (s : Int), k ≤ zs.length ∧ iv = .int .i64 k ∧ tv = .int .u32 (t : Int) ∧ sv = .int .i64 s ∧ t < 2 ^ n.toNat ∧ 0 ≤ s ∧ s ≤ k * 1099511627776 ∧ fitW ls zs 0 0 = fitW (ls.drop k) (zs.drop k) t s ∧ Below w1.heap.size w1 wr) (fun _ _ iv _ => zs.length - (intOf iv).toNat)
    case atStart => exact ⟨0, 0, 0, Nat.zero_le _, rfl, rfl, rfl, Nat.lt_of_lt_of_le Nat.zero_lt_one Nat.one_le_two_pow, Int.le_refl _, by omega, by simp, Below.refl _ _⟩
    case round =>
      obtain ⟨k, t, s, hk, rfl, rfl, rfl, ht, hs0, hsk, hfit, hb⟩ := hrel
      have HF := hide hfit
      have HBE := hide hb
      have HT := hide ht
      clear hfit hb ht
      by_cases hlt : k < zs.length
      · have hkl : k < ls.length := by have := HLEN.out; omega
        obtain ⟨bb, bo, rfl, hbB, hat⟩ := HA.out.at_ (by omega)
        obtain ⟨⟨a1, a2⟩, l, ha, hlx, hof, _⟩ := HA.out.get hkl
        obtain ⟨zb, zo, rfl, hzB, hzt⟩ := One.at_ HZ.out (by omega)
        obtain ⟨z, hzx⟩ : ∃ z, zs[k]? = some z := ⟨zs[k], List.getElem?_eq_getElem hlt⟩
        have hBw : Below w.heap.size w wr := HB.out.trans (HBE.out.mono HB.out.size)
        have d0 : wr.cell? ⟨bb, bo + k, none⟩ = some (.slice a1 l.length a2) := (hBw.cell (p := ⟨bb, bo + k, none⟩) hbB).trans (hat k _ l ha hlx)
        have d1 : wr.cell? ⟨zb, zo + k, none⟩ = some (.int .i64 z) := (hBw.cell (p := ⟨zb, zo + k, none⟩) hzB).trans (hzt k z hzx)
        have d2 : wr.cell? ⟨w.heap.size, 1, none⟩ = some (.slice (some ⟨bb, bo, none⟩) ls.length c) := (HBE.out.cell (p := ⟨w.heap.size, 1, none⟩) (lt_of_block HX.out)).trans x1
        have HST := hide (fitW_step hlx hzx t s)
        have HOF := hide (hof.below hBw)
        have HML := hide (List.mem_of_getElem? hlx)
        have hki : (k : Int) < (ls.length : Int) := by omega
        have hkz : (k : Int) < (zs.length : Int) := by omega
        have hlen8 := HG.out.short l (List.mem_of_getElem? hlx)
        clear hat ha hlx hof hzt hzx hBw
        by_cases h1 : z < -1
        · have HR : Hid (fitW ls zs 0 0 = none) := hide (by rw [HF.out, HST.out, if_pos (.inl h1)])
          rw [HR.out]
          unfold fitV
          go_wp2_with fail
          go_ret2
          exact ⟨rfl, HB.out.trans (HBE.out.mono HB.out.size)⟩
        · have e1 : decide (z < -1) = false := decide_eq_false h1
          by_cases h2 : (l.length : Int) ≤ z
          · have HR : Hid (fitW ls zs 0 0 = none) := hide (by rw [HF.out, HST.out, if_pos (.inr h2)])
            rw [HR.out]
            unfold fitV
            go_wp2_with fail
            go_ret2
            exact ⟨rfl, HB.out.trans (HBE.out.mono HB.out.size)⟩
          · have e2 : decide ((l.length : Int) ≤ z) = false := decide_eq_false h2
            have HST1 : Hid (fitW (ls.drop k) (zs.drop k) t s = if z < 0 then fitW (ls.drop (k + 1)) (zs.drop (k + 1)) t s else if ((l[z.toNat]?).getD (0, 0)).1 &&& t = 0 then fitW (ls.drop (k + 1)) (zs.drop (k + 1)) (t ||| ((l[z.toNat]?).getD (0, 0)).1) (s + ((l[z.toNat]?).getD (0, 0)).2) else none) := hide (by rw [HST.out, if_neg (by omega)])
            by_cases h3 : z < 0
            · have HNX : Hid (fitW ls zs 0 0 = fitW (ls.drop (k + 1)) (zs.drop (k + 1)) t s) := hide (by rw [HF.out, HST1.out, if_pos h3])
              go_wp2_with fail
              go_roundw
              case rel => exact ⟨k + 1, t, s, by omega, by go_num, rfl, rfl, HT.out, hs0, by omega, HNX.out, HBE.out⟩
              case measure => simp [intOf]; omega
            · have e3 : decide (z < 0) = false := decide_eq_false h3
              obtain ⟨q, o, hzq, hq, hgd, hom⟩ := getD_at (not_or.2 ⟨h1, h2⟩) h3
              subst hzq
              have hgo := HG.out.good l HML.out o hom
              have hto := HG.out.top l HML.out o hom
              obtain ⟨ob, oo, rfl, hobB, hoc⟩ := HOF.out.at_ (Nat.lt_of_le_of_lt (Nat.zero_le _) (List.getElem?_eq_some_iff.1 hq).1)
              obtain ⟨q0, q1⟩ := hoc q o hq
              rw [hgd, if_neg h3] at HST1
              have hql : (q : Int) < (l.length : Int) := by omega
              obtain ⟨g, co⟩ := o
              obtain ⟨_, hg32, hco1, hco2⟩ := hgo
              simp only [offV] at q0 q1 hg32 hco1 hco2 hto HST1
              have ht32 : t < 4294967296 := by have := HT.out; have := HTP.out; omega
              have hand := u32_and_nat g t hg32 ht32
              have hor := u32_or_nat t g ht32 hg32
              have HOR := hide (Nat.or_lt_two_pow HT.out hto)
              clear hoc hgd hq hom hto
              by_cases h4 : g &&& t = 0
              · have e4 : (((g &&& t : Nat) : Int) != 0) = false := by simp; omega
                rw [if_pos h4] at HST1
                have HNX : Hid (fitW ls zs 0 0 = fitW (ls.drop (k + 1)) (zs.drop (k + 1)) (t ||| g) (s + co)) := hide (by rw [HF.out, HST1.out])
                have hw2 : IntKind.i64.wrap (s + co) = s + co := Go.IntWalk.i64_in _ (by omega)
                clear h4
                go_wp2_with fail
                go_roundw
                case rel => exact ⟨k + 1, t ||| g, s + co, by omega, by go_num, rfl, rfl, HOR.out, by omega, by omega, HNX.out, HBE.out.trans ((Below.refl _ _).alloc HBE.out.size _)⟩
                case measure => simp [intOf]; omega
              · have e4 : (((g &&& t : Nat) : Int) != 0) = true := by simp; omega
                rw [if_neg h4] at HST1
                have HR : Hid (fitW ls zs 0 0 = none) := hide (by rw [HF.out, HST1.out])
                rw [HR.out]
                unfold fitV
                clear h4
                go_wp2_with fail
                go_ret2
                exact ⟨rfl, (HB.out.trans (HBE.out.mono HB.out.size)).alloc (by have := HB.out.size; have := HBE.out.size; omega) _⟩
      · obtain rfl : k = zs.length := by omega
        have HR : Hid (fitW ls zs 0 0 = some s) := hide (by
          rw [HF.out, List.drop_length, show zs.length = ls.length from HLEN.out, List.drop_length]
          rfl)
        go_wp2_with fail
        go_ret2
        exact ⟨by rw [HR.out]; rfl, HB.out.trans (HBE.out.mono HB.out.size)⟩
  · have hne : (((zs.length : Nat) : Int) != (ls.length : Int)) = true := by simp; omega
    rw [fitW_len ls zs 0 0 hlen]
    unfold fitV
    clear hlen
    go_enter Try.func25, Try.ntmps25
    go_wp2_with fail
    go_ret2
    exact ⟨rfl, HB.out⟩
end Go.Proofs.Ytkjmpenaifhfjaa
