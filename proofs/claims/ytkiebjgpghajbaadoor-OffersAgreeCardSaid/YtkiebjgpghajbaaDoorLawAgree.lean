/- The walk of the law OffersAgree. (Printed by gen_agree8.py.) -/
import Derived.Test.YtkiebjgpghajbaaDoorLawTell
import Derived.Test.YtkiebjgpghajbaaDoorAgreeP
import Derived.Test.YtkiebjgpghajbaaDoorUntil
import Derived.Test.YtkiebjgpghajbaaDoorSpoilt
namespace Go.Proofs.YtkiebjgpghajbaaDoor
open Go.RowKit Go.Maps
open Go.ChangeMaps Go.WideMaps

theorem may_wide {l : List Offer} (hw : OWide l) (h : ∀ o ∈ l, mayO 10 o = true) : ∀ o ∈ l, o.1 < 1024 := by
  intro o ho
  have h1 := h o ho
  unfold mayO badO at h1
  simp only [Bool.not_eq_true', Bool.or_eq_false_iff, Bool.not_eq_false'] at h1
  have h2 := h1.1.1.2
  rw [show ((10 : Int).toNat) = 10 from rfl, within_all o.1 10 (hw o ho).1 (by omega), decide_eq_true_iff] at h2
  omega
theorem addrA (g j : Nat) : (⟨g, 0, none⟩ : Addr).add j = ⟨g, j, none⟩ := by unfold Addr.add; split <;> simp_all
set_option maxRecDepth 100000 in
set_option maxHeartbeats 32000000 in
theorem agreeLaw_any (A : Option Addr) (c : Nat) (a : List Offer) (A' : Option Addr) (c' : Nat) (b : List Offer) (y z : Int) (w : World) (h : Offs w w.heap.size A a) (hc : a.length ≤ c) (h' : Offs w w.heap.size A' b) (hc' : b.length ≤ c') (hla : (a.length : Int) ≤ 9223372036854775807) (hlb : (b.length : Int) ≤ 9223372036854775807) (hwa : OWide a) (hwb : OWide b)
    (hyy : -9223372036854775808 ≤ y ∧ y ≤ 9223372036854775807) (hzz : -9223372036854775808 ≤ z ∧ z ≤ 9223372036854775807) (hT : TabW w) :
    Calls Tryd.prog 7 #[.slice A a.length c, .slice A' b.length c', .agg #[.int .i64 y, .int .i64 z]] w (LawPost w) := by
  have HA_w : Hid (Below w.heap.size w (w.alloc (.cells #[.int .i64 y, .int .i64 z] 64))) := hide ((Below.refl _ _).alloc (Nat.le_refl _) _)
  have HX : Hid ((w.alloc (.cells #[.int .i64 y, .int .i64 z] 64)).heap[w.heap.size]? = some (.cells #[.int .i64 y, .int .i64 z] 64 (0, 0))) := hide (heap_alloc_new w _)
  have HOA := hide h
  have HOB := hide h'
  have HWA := hide hwa
  have HWB := hide hwb
  have HT := hide hT
  have HYY := hide hyy
  have HZZ := hide hzz
  have HCA := hide hc
  have HCB := hide hc'
  have HLA := hide hla
  have HLB := hide hlb
  have HWK : Hid (∀ W, Below w.heap.size w W → Calls Tryd.prog 10 #[] W (ValPost (.bool true) W)) := hide (fun W hW => works_any W (HT.out.below hW))
  clear h h' hc hc' hla hlb hwa hwb hyy hzz hT
  go_enter Tryd.func7, Tryd.ntmps7
  go_upto_region 1 with fail
  generalize w.alloc (.cells #[.int .i64 y, .int .i64 z] 64) = w0 at *
  have HLO := hide (longO_any _ 2 _ _ _ (two_buys (HOA.out.up HA_w.out) HCA.out (HOB.out.up HA_w.out) HCB.out) (by simp) (by intro l' hl'; simp at hl'; rcases hl' with rfl | rfl; exact HLA.out; exact HLB.out))
  have HA_w0 : Hid (Below w0.heap.size w0 (w0.alloc (.cells #[.slice A a.length c, .slice A' b.length c'] 22))) := hide ((Below.refl _ _).alloc (Nat.le_refl _) _)
  simp only [List.length_cons, List.length_nil] at HLO
  go_wp2_with fail
  refine (HLO.out).mono ?_
  rintro e w1 ⟨bo, rfl, hbo, hb1⟩
  replace HA_w0 := hide (bt HA_w0.out hb1)
  replace HX := hide ((HA_w0.out.block _ (lt_of_block HX.out)).trans HX.out)
  replace HA_w := hide (bt HA_w.out HA_w0.out)
  clear hb1 HLO HA_w0
  cases bo
  rotate_left
  · clear hbo
    go_wp2_with fail
    refine (HWK.out w1 HA_w.out).mono ?_
    rintro e w2 ⟨rfl, hb⟩
    have HEN := hide (bt HA_w.out hb)
    clear hb
    go_wp2_with fail
    go_ret
    exact ⟨rfl, HEN.out⟩
  have hla := (hbo rfl).2 a (by simp)
  have hlb := (hbo rfl).2 b (by simp)
  clear hbo
  go_wp2_with fail
  refine (HWK.out w1 HA_w.out).mono ?_
  rintro e w2 ⟨rfl, hb⟩
  replace HA_w : Hid (Below w.heap.size w w2) := hide (bt HA_w.out hb)
  replace HX := hide ((hb.block _ (lt_of_block HX.out)).trans HX.out)
  clear hb
  go_wp2_with fail
  go_loopw [7] (fun iv wr => ∃ k : Nat, k ≤ a.length ∧ iv = .int .i64 k ∧ (∀ (j : Nat) o, j < k → a[j]? = some o → mayO 10 o = true) ∧ Below w2.heap.size w2 wr) (fun iv _ => a.length - (intOf iv).toNat)
  case atStart => exact ⟨0, Nat.zero_le _, rfl, fun j o hj => absurd hj (by omega), Below.refl _ _⟩
  case round =>
    obtain ⟨k, hk, rfl, hno, hb⟩ := hrel
    have HN := hide hno
    have HB := hide hb
    clear hno hb
    by_cases hlt : k < a.length
    · obtain ⟨gb, go, rfl, hgB, hat⟩ := (HOA.out.up (bt HA_w.out HB.out)).at_ (by omega)
      have hkk := List.getElem?_eq_getElem hlt
      generalize hox : a[k] = ox at hkk
      obtain ⟨d0, d1⟩ := hat k ox hkk
      have hwo := (HWA.out ox (List.mem_of_getElem? hkk)).1
      have HKK := hide hkk
      have hki : (k : Int) < (a.length : Int) := by omega
      have HMY := hide (may08_any 10 ox (by omega) (by omega) hwo wr)
      clear hat hkk hox hwo
      go_wp2_with fail
      refine (HMY.out).mono ?_
      rintro e w2 ⟨rfl, hb⟩
      have HB2 := hide (bt HB.out hb)
      clear hb HMY
      cases hmy : mayO 10 ox
      · go_wp2_with fail
        refine (HWK.out w2 (bt HA_w.out HB2.out)).mono ?_
        rintro e w3 ⟨rfl, hb⟩
        have HEN := hide (bt (bt HA_w.out HB2.out) hb)
        clear hb
        go_wp2_with fail
        go_ret
        exact ⟨rfl, HEN.out⟩
      · have HMM := hide hmy
        clear hmy
        go_wp2_with fail
        go_roundw
        case rel =>
          refine ⟨k + 1, by omega, by go_num, fun j o hj hx => ?_, HB2.out⟩
          rcases Nat.lt_or_ge j k with h1 | h1
          · exact HN.out j o h1 hx
          · obtain rfl : j = k := by omega
            rw [HKK.out] at hx
            injection hx with hx
            rw [← hx]; exact HMM.out
        case measure => simp [intOf]; omega
    · obtain rfl : k = a.length := by omega
      have HMa := hide (may_wide HWA.out (fun o ho => by obtain ⟨j, hj⟩ := List.getElem?_of_mem ho; exact HN.out j o (List.getElem?_eq_some_iff.1 hj).1 hj))
      replace HX := hide ((HB.out.block _ (lt_of_block HX.out)).trans HX.out)
      replace HA_w := hide (bt HA_w.out HB.out)
      clear HN HB
      obtain ⟨wp, rfl⟩ : ∃ wp : World, wp = wr := ⟨_, rfl⟩
      go_wp2_with fail
      go_loopw [8] (fun iv wr => ∃ k : Nat, k ≤ b.length ∧ iv = .int .i64 k ∧ (∀ (j : Nat) o, j < k → b[j]? = some o → mayO 10 o = true) ∧ Below wp.heap.size wp wr) (fun iv _ => b.length - (intOf iv).toNat)
      case atStart => exact ⟨0, Nat.zero_le _, rfl, fun j o hj => absurd hj (by omega), Below.refl _ _⟩
      case round =>
        obtain ⟨k, hk, rfl, hno, hb⟩ := hrel
        have HN := hide hno
        have HB := hide hb
        clear hno hb
        by_cases hlt : k < b.length
        · obtain ⟨gb, go, rfl, hgB, hat⟩ := (HOB.out.up (bt HA_w.out HB.out)).at_ (by omega)
          have hkk := List.getElem?_eq_getElem hlt
          generalize hox : b[k] = ox at hkk
          obtain ⟨d0, d1⟩ := hat k ox hkk
          have hwo := (HWB.out ox (List.mem_of_getElem? hkk)).1
          have HKK := hide hkk
          have hki : (k : Int) < (b.length : Int) := by omega
          have HMY := hide (may08_any 10 ox (by omega) (by omega) hwo wr)
          clear hat hkk hox hwo
          go_wp2_with fail
          refine (HMY.out).mono ?_
          rintro e w2 ⟨rfl, hb⟩
          have HB2 := hide (bt HB.out hb)
          clear hb HMY
          cases hmy : mayO 10 ox
          · go_wp2_with fail
            refine (HWK.out w2 (bt HA_w.out HB2.out)).mono ?_
            rintro e w3 ⟨rfl, hb⟩
            have HEN := hide (bt (bt HA_w.out HB2.out) hb)
            clear hb
            go_wp2_with fail
            go_ret
            exact ⟨rfl, HEN.out⟩
          · have HMM := hide hmy
            clear hmy
            go_wp2_with fail
            go_roundw
            case rel =>
              refine ⟨k + 1, by omega, by go_num, fun j o hj hx => ?_, HB2.out⟩
              rcases Nat.lt_or_ge j k with h1 | h1
              · exact HN.out j o h1 hx
              · obtain rfl : j = k := by omega
                rw [HKK.out] at hx
                injection hx with hx
                rw [← hx]; exact HMM.out
            case measure => simp [intOf]; omega
        · obtain rfl : k = b.length := by omega
          have HMb := hide (may_wide HWB.out (fun o ho => by obtain ⟨j, hj⟩ := List.getElem?_of_mem ho; exact HN.out j o (List.getElem?_eq_some_iff.1 hj).1 hj))
          replace HX := hide ((HB.out.block _ (lt_of_block HX.out)).trans HX.out)
          replace HA_w := hide (bt HA_w.out HB.out)
          clear HN HB
          have HNM := hide (normal_any A c a _ (HOA.out.up HA_w.out) (by omega) HWA.out)
          go_wp2_with fail
          refine (HNM.out).mono ?_
          rintro e w5 ⟨An, cn, rfl, hn, hb⟩
          replace HA_w : Hid (Below w.heap.size w w5) := hide (bt HA_w.out hb)
          have HN := hide hn
          have HNL : Hid ((normL a).length ≤ 60) := hide (Nat.le_trans (norm_len a HWA.out) hla)
          replace HX := hide ((hb.block _ (lt_of_block HX.out)).trans HX.out)
          clear hn HNM
          clear hb
          go_upto_region 16 with fail
          have HA_w5 : Hid (Below w5.heap.size w5 w5) := hide (Below.refl _ _)
          have HXL := hide (lt_of_block HX.out)
          have HAR : Hid (∃ cs : Array Value, cs.size = 64 ∧ (w5.alloc (.cells #[.bool false, .bool false, .bool false, .bool false, .bool false, .bool false, .bool false, .bool false, .bool false, .bool false, .bool false, .bool false, .bool false, .bool false, .bool false, .bool false, .bool false, .bool false, .bool false, .bool false, .bool false, .bool false, .bool false, .bool false, .bool false, .bool false, .bool false, .bool false, .bool false, .bool false, .bool false, .bool false, .bool false, .bool false, .bool false, .bool false, .bool false, .bool false, .bool false, .bool false, .bool false, .bool false, .bool false, .bool false, .bool false, .bool false, .bool false, .bool false, .bool false, .bool false, .bool false, .bool false, .bool false, .bool false, .bool false, .bool false, .bool false, .bool false, .bool false, .bool false, .bool false, .bool false, .bool false, .bool false] 68)).heap[w5.heap.size]? = some (.cells cs 68 (0, 0))) := hide ⟨_, rfl, heap_alloc_new w5 _⟩
          have hb : Below w5.heap.size w5 (w5.alloc (.cells #[.bool false, .bool false, .bool false, .bool false, .bool false, .bool false, .bool false, .bool false, .bool false, .bool false, .bool false, .bool false, .bool false, .bool false, .bool false, .bool false, .bool false, .bool false, .bool false, .bool false, .bool false, .bool false, .bool false, .bool false, .bool false, .bool false, .bool false, .bool false, .bool false, .bool false, .bool false, .bool false, .bool false, .bool false, .bool false, .bool false, .bool false, .bool false, .bool false, .bool false, .bool false, .bool false, .bool false, .bool false, .bool false, .bool false, .bool false, .bool false, .bool false, .bool false, .bool false, .bool false, .bool false, .bool false, .bool false, .bool false, .bool false, .bool false, .bool false, .bool false, .bool false, .bool false, .bool false, .bool false] 68)) := (Below.refl _ _).alloc (Nat.le_refl _) _
          generalize (w5.alloc (.cells #[.bool false, .bool false, .bool false, .bool false, .bool false, .bool false, .bool false, .bool false, .bool false, .bool false, .bool false, .bool false, .bool false, .bool false, .bool false, .bool false, .bool false, .bool false, .bool false, .bool false, .bool false, .bool false, .bool false, .bool false, .bool false, .bool false, .bool false, .bool false, .bool false, .bool false, .bool false, .bool false, .bool false, .bool false, .bool false, .bool false, .bool false, .bool false, .bool false, .bool false, .bool false, .bool false, .bool false, .bool false, .bool false, .bool false, .bool false, .bool false, .bool false, .bool false, .bool false, .bool false, .bool false, .bool false, .bool false, .bool false, .bool false, .bool false, .bool false, .bool false, .bool false, .bool false, .bool false, .bool false] 68)) = w6 at *
          replace HX := hide ((hb.block _ (lt_of_block HX.out)).trans HX.out)
          replace HA_w : Hid (Below w.heap.size w w6) := hide (bt HA_w.out hb)
          replace HA_w5 : Hid (Below w5.heap.size w5 w6) := hide (bt HA_w5.out hb)
          clear hb
          have HNO : Hid (∀ W, Below w5.heap.size w5 W → Offs W W.heap.size An (normL a)) := hide (fun W hW => (Two.of_own HN.out rfl).up hW)
          have HSM := hide (norm_says HWA.out).1
          go_wp2_with fail
          go_loopw [10, 12] (fun al gv wr => ∃ (g : Nat) (q : Bool), g ≤ 1024 ∧ al = .bool q ∧ gv = .int .u32 g ∧ (q = true ↔ ∀ h, h < g → (worthL h a).1 = (worthL h b).1) ∧ Below w6.heap.size w6 wr) (fun _ gv _ => 1024 - (intOf gv).toNat)
          case atStart => exact ⟨0, true, by omega, rfl, rfl, ⟨fun _ h hh => absurd hh (by omega), fun _ => rfl⟩, Below.refl _ _⟩
          case round =>
            obtain ⟨g, q, hg, rfl, rfl, hq, hb⟩ := hrel
            have HQ := hide hq
            have HB := hide hb
            clear hq hb
            by_cases hlt : g < 1024
            · obtain ⟨m, hm, hm1, hm2⟩ : ∃ m : Nat, m < 4294967296 ∧ IntKind.u32.wrap ((g : Int) - 1) = (m : Int) ∧ bits .and .u32 (g : Int) (m : Int) = ((g &&& m : Nat) : Int) := ⟨(g + 4294967295) % 4294967296, by omega, by simp only [IntKind.wrap_u32]; omega, u32_and_nat g _ (by omega) (by omega)⟩
              have hgi : (g : Int) < 1024 := by omega
              have hsub : withinB (g &&& m) g = true := by rw [withinB_and _ _ (Nat.lt_of_le_of_lt Nat.and_le_left (by omega)) (by omega), beq_iff_eq, Nat.and_assoc, Nat.and_comm m g, ← Nat.and_assoc, Nat.and_self]
              have hmono := worth_mono HWA.out (Nat.lt_of_le_of_lt Nat.and_le_left (by omega)) (by omega) hsub
              have hat := worth_at g (normL a)
              have heq := norm_worth HWA.out (g := g) (by omega)
              have H1 : Hid (∀ W, Below w.heap.size w W → Calls Tryd.prog 26 #[.slice A a.length c, .int .u32 (g : Int)] W (ValPost (.tuple #[.int .i64 (worthL g a).1, .int .i64 (worthL g a).2]) W)) := hide (fun W hW => worth8_any A c a g (by omega) W (HOA.out.up hW) (by omega) HWA.out)
              have H2 : Hid (∀ W, Below w5.heap.size w5 W → Calls Tryd.prog 26 #[.slice An (normL a).length cn, .int .u32 (g : Int)] W (ValPost (.tuple #[.int .i64 (worthL g (normL a)).1, .int .i64 (worthL g (normL a)).2]) W)) := hide (fun W hW => worth8_any An cn (normL a) g (by omega) W (HNO.out W hW) (by have := HNL.out; omega) (norm_wide HWA.out))
              have H3 : Hid (∀ W, Below w.heap.size w W → Calls Tryd.prog 26 #[.slice A' b.length c', .int .u32 (g : Int)] W (ValPost (.tuple #[.int .i64 (worthL g b).1, .int .i64 (worthL g b).2]) W)) := hide (fun W hW => worth8_any A' c' b g (by omega) W (HOB.out.up hW) (by omega) HWB.out)
              have H4 : Hid (∀ W, Below w.heap.size w W → Calls Tryd.prog 26 #[.slice A a.length c, .int .u32 ((g &&& m : Nat) : Int)] W (ValPost (.tuple #[.int .i64 (worthL (g &&& m) a).1, .int .i64 (worthL (g &&& m) a).2]) W)) := hide (fun W hW => worth8_any A c a (g &&& m) (Nat.lt_of_le_of_lt Nat.and_le_left (by omega)) W (HOA.out.up hW) (by omega) HWA.out)
              rw [heq] at H2
              clear heq hsub
              obtain ⟨va, hva⟩ : ∃ v, v = (worthL g a).1 := ⟨_, rfl⟩
              obtain ⟨vb, hvb⟩ : ∃ v, v = (worthL g b).1 := ⟨_, rfl⟩
              rw [← hva] at H1 H2 hmono
              rw [← hvb] at H3
              generalize (worthL g a).2 = pa at H1
              generalize (worthL g (normL a)).2 = pn at H2 hat
              generalize (worthL g b).2 = pb at H3
              generalize (worthL (g &&& m) a).1 = vm at H4 hmono
              generalize (worthL (g &&& m) a).2 = pm at H4
              generalize g &&& m = gm at *
              have HVA := hide hva
              have HVB := hide hvb
              have hn1 : ¬ (va < vm) := by omega
              have hn2 : decide (vm > va) = false := by simp; omega
              have hn3 : ¬ (((normL a).length : Int) ≤ pn) := by omega
              have hn4 : decide (pn ≥ ((normL a).length : Int)) = false := by simp; omega
              have B0 := hide (bt HA_w.out HB.out)
              have B5 := hide (bt HA_w5.out HB.out)
              clear hva hvb hmono hat
              go_wp2_with fail
              refine (H1.out wr B0.out).mono ?_
              rintro e w7 ⟨rfl, hb⟩
              replace B0 := hide (bt B0.out hb)
              replace B5 := hide (bt B5.out hb)
              replace HB := hide (bt HB.out hb)
              clear hb
              go_wp2_with fail
              refine (H2.out w7 B5.out).mono ?_
              rintro e w8 ⟨rfl, hb⟩
              replace B0 := hide (bt B0.out hb)
              replace B5 := hide (bt B5.out hb)
              replace HB := hide (bt HB.out hb)
              clear hb
              go_wp2_with fail
              refine (H3.out w8 B0.out).mono ?_
              rintro e w9 ⟨rfl, hb⟩
              replace B0 := hide (bt B0.out hb)
              replace B5 := hide (bt B5.out hb)
              replace HB := hide (bt HB.out hb)
              clear hb
              cases q
              · go_wp2_with fail
                refine (H4.out w9 B0.out).mono ?_
                rintro e w10 ⟨rfl, hb⟩
                replace HB := hide (bt HB.out hb)
                clear hb
                go_wp2_with fail
                go_roundw
                case rel =>
                  refine ⟨g + 1, false, by omega, rfl, by go_num, ⟨fun h => (by cases h), fun h => ?_⟩, HB.out⟩
                  exact HQ.out.2 (fun x hx => h x (by omega))
                case measure => simp [intOf]; omega
              · go_wp2_with fail
                refine (H4.out w9 B0.out).mono ?_
                rintro e w10 ⟨rfl, hb⟩
                replace HB := hide (bt HB.out hb)
                clear hb
                go_wp2_with fail
                go_roundw
                case rel =>
                  refine ⟨g + 1, _, by omega, rfl, by go_num, ?_, HB.out⟩
                  rw [beq_iff_eq]
                  constructor
                  · intro h x hx
                    rcases Nat.lt_or_ge x g with h1 | h1
                    · exact HQ.out.1 (by first | trivial | rfl) x h1
                    · obtain rfl : x = g := by omega
                      rw [← HVA.out, ← HVB.out, h]
                  · intro h
                    rw [HVA.out, HVB.out, h g (by omega)]
                case measure => simp [intOf]; omega
            · obtain rfl : g = 1024 := by omega
              have HQQ : Hid (q = decide (normL a = normL b)) := hide (by rw [Bool.eq_iff_iff, decide_eq_true_iff, HQ.out]; exact ⟨fun h => norm_same HWA.out HWB.out (fun g ⟨x, hx, e⟩ => h g (by subst e; rcases hx with hx | hx; exact HMa.out x hx; exact HMb.out x hx)), fun h g hg => norm_worths HWA.out HWB.out h (by omega)⟩)
              obtain ⟨wt, rfl⟩ : ∃ wt : World, wt = wr := ⟨_, rfl⟩
              have B0 := hide (bt HA_w.out HB.out)
              have B5 := hide (bt HA_w5.out HB.out)
              replace HAR : Hid (∃ cs : Array Value, cs.size = 64 ∧ wt.heap[w5.heap.size]? = some (.cells cs 68 (0, 0))) := hide (by obtain ⟨cs, h1, h2⟩ := HAR.out; exact ⟨cs, h1, (HB.out.block _ (lt_of_block h2)).trans h2⟩)
              replace HX := hide ((HB.out.block _ (lt_of_block HX.out)).trans HX.out)
              have HSA : Hid (∀ W, Below w.heap.size w W → Calls Tryd.prog 37 #[.slice A a.length c, .slice A' b.length c'] W (ValPost (.bool (decide (normL a = normL b))) W)) := hide (fun W hW => same8_any A c a A' c' b W (HOA.out.up hW) (HOB.out.up hW) (by omega) (by omega) HWA.out HWB.out)
              have HNN : Hid (∀ W, Below w5.heap.size w5 W → Calls Tryd.prog 32 #[.slice An (normL a).length cn] W (ClonePost (normL a) W)) := hide (fun W hW => by have := normal_any An cn (normL a) W (HNO.out W hW) (by have := HNL.out; omega) (norm_wide HWA.out); rwa [norm_norm HWA.out] at this)
              have HNEED : Hid (∀ (i : Nat) (o : Offer), (normL a)[i]? = some o → (worthL o.1 ((normL a).take i ++ (normL a).drop (i + 1))).1 < (worthL o.1 (normL a)).1) := hide (fun i o h => norm_needs HWA.out h)
              have HWN := hide (norm_wide HWA.out)
              have HRM : Hid (∀ (y z : Int), 0 ≤ y → 0 ≤ z → lowerL z (lowerL y a) = lowerL (y + z) a) := hide (fun y z hy hz => lower_lower hy hz a)
              clear HQ HB HA_w HA_w5 HSM HMa HMb
              generalize normL a = nl at *
              have hsub := HQQ.out
              subst hsub
              clear HQQ
              generalize decide (nl = normL b) = dq at *
              go_wp2_with fail
              rw [show ((1024 : Nat) : Int) = 1024 from rfl]
              go_loopw [21] (fun iv wr => ∃ k : Nat, k ≤ nl.length ∧ iv = .int .i64 k ∧ Below w5.heap.size wt wr ∧ (∃ cs : Array Value, cs.size = 64 ∧ wr.heap[w5.heap.size]? = some (.cells cs 68 (0, 0)))) (fun iv _ => nl.length - (intOf iv).toNat)
              case atStart => exact ⟨0, Nat.zero_le _, rfl, Below.refl _ _, HAR.out⟩
              case round =>
                obtain ⟨k, hk, rfl, hb, har⟩ := hrel
                replace HAR := hide har
                have HB := hide hb
                replace B5 := hide (B5.out.trans hb)
                replace B0 := hide (B0.out.trans (hb.mono (Nat.le_of_lt HXL.out)))
                clear hb har
                have hnl60 := HNL.out
                by_cases hlt : k < nl.length
                · obtain ⟨gn, cn2, hA, _, _⟩ := HN.out.form (by omega)
                  injection hA with hA _ hcc
                  subst hA hcc
                  have hcn : nl.length ≤ cn := by obtain ⟨_, _, e, hc⟩ := own_sh HN.out; injection e with _ _ e; omega
                  have hkk := List.getElem?_eq_getElem hlt
                  generalize hox : nl[k] = ox at hkk
                  have HKK := hide hkk
                  have HD : Hid (∀ W, Below wr.heap.size wr W → W.cell? ⟨gn, k * 2, none⟩ = some (.int .u32 (ox.1 : Int))) := hide (fun W hW => by
                    obtain ⟨b', o', e, _, hat⟩ := (HNO.out W (bt B5.out hW)).at_ (by omega)
                    injection e with e
                    injection e with e1 e2
                    subst e1 e2
                    have := (hat k ox HKK.out).1
                    rwa [Nat.zero_add] at this)
                  have hwo := (HWN.out ox (List.mem_of_getElem? hkk)).1
                  have hneed := HNEED.out k ox hkk
                  have hki : (k : Int) < (nl.length : Int) := by omega
                  have hkc : (k : Int) ≤ (cn : Int) := by omega
                  have hk64 : (k : Int) < 64 := by omega
                  have hk0 : (0 : Int) ≤ (k : Int) := by omega
                  have hk1 : (k : Int) + 1 ≤ (nl.length : Int) := by omega
                  have hk2 : (0 : Int) ≤ (k : Int) + 1 := by omega
                  have hkw : IntKind.i64.wrap ((k : Int) + 1) = (k : Int) + 1 := Go.IntWalk.i64_in _ (by omega)
                  have hkt : ((k : Int) + 1).toNat = k + 1 := by omega
                  have hlc : (nl.length : Int) ≤ (cn : Int) := by omega
                  have HO1 : Hid ((wr.drew.alloc (.cells #[] 67)).ownsRow wr.heap.size 67 2 (.slice (some ⟨wr.heap.size, 0, none⟩) 0 0) 0 []) := hide (World.ownsRow_made wr.drew #[] 0 (Nat.le_refl _) (by decide) rfl)
                  have HBA : Hid (Below wr.heap.size wr (wr.drew.alloc (.cells #[] 67))) := hide ((Below.refl _ _).drew.alloc (Nat.le_refl _) _)
                  have R1 : Hid (∀ W, Below wr.heap.size wr W → Reads W W.heap.size 2 (some ⟨gn, 0, none⟩) k (cells2 offV (nl.take k))) := hide (fun W hW => by
                    have := Two.front (HNO.out W (bt B5.out hW)) (k := k) (by omega)
                    unfold Two at this
                    rwa [List.length_take, Nat.min_eq_left (by omega)] at this)
                  obtain ⟨Ax, hAx⟩ : ∃ Ax, (if cn = k + 1 then some (⟨gn, 0, none⟩ : Addr) else some ⟨gn, (k + 1) * 2, none⟩) = Ax := ⟨_, rfl⟩
                  have R2 : Hid (∀ W, Below wr.heap.size wr W → Reads W W.heap.size 2 Ax (nl.length - (k + 1)) (cells2 offV (nl.drop (k + 1)))) := hide (fun W hW => by
                    have := Two.cut (HNO.out W (bt B5.out hW)) (k := k + 1) (cap := cn) (by omega) hcn
                    unfold Two at this
                    rw [List.length_drop, Option.map_some, addrA, hAx] at this
                    exact this)
                  have G1 := hide (off_one (nl.take k))
                  have G2 := hide (off_one (nl.drop (k + 1)))
                  have G3 : Hid (0 + k ≤ maxLen) := hide (by unfold maxLen; omega)
                  have G4 : Hid ((0 + k) * 16 ≤ 140737488355328) := hide (by omega)
                  have G5 : Hid (0 + k + (nl.length - (k + 1)) ≤ maxLen) := hide (by unfold maxLen; omega)
                  have G6 : Hid ((0 + k + (nl.length - (k + 1))) * 16 ≤ 140737488355328) := hide (by omega)
                  clear hkk hox
                  go_wp2_with fail
                  refine wp_region_U 11 (fun _ => True) rfl trivial (fun hHeld => ?_)
                  refine AnyU.take (i := 1) (v := ?v1) rfl (by kernel_rfl) (by kernel_rfl) (by kernel_rfl) (by kernel_rfl) (fun _ _ _ h => h) (Or.inl ⟨by rfl, ?hy1⟩) hHeld ?r1
                  case hy1 => (intro w hSw; (try dsimp only at hSw); go_simp <;> with_reducible rfl)
                  simp only [Act.put, List.setIfInBounds_toArray, List.set_cons_zero, List.set_cons_succ]
                  refine AnyU.take (i := 2) (v := ?v2) rfl (by kernel_rfl) (by kernel_rfl) (by kernel_rfl) (by kernel_rfl) (fun _ _ _ h => h) (Or.inl ⟨by rfl, ?hy2⟩) hHeld ?r2
                  case hy2 => (intro w hSw; (try dsimp only at hSw); go_simp <;> with_reducible rfl)
                  simp only [Act.put, List.setIfInBounds_toArray, List.set_cons_zero, List.set_cons_succ]
                  refine AnyU.take (i := 3) (v := ?v3) rfl (by kernel_rfl) (by kernel_rfl) (by kernel_rfl) (by kernel_rfl) (fun _ _ _ h => h) (Or.inl ⟨by rfl, ?hy3⟩) hHeld ?r3
                  case hy3 => (intro w hSw; (try dsimp only at hSw); go_simp <;> with_reducible rfl)
                  simp only [Act.put, List.setIfInBounds_toArray, List.set_cons_zero, List.set_cons_succ]
                  refine AnyU.take (i := 5) (v := ?v4) rfl (by kernel_rfl) (by kernel_rfl) (by kernel_rfl) (by kernel_rfl) (fun _ _ _ h => h) (Or.inl ⟨by rfl, ?hy4⟩) hHeld ?r4
                  case hy4 => (intro w hSw; (try dsimp only at hSw); go_simp <;> with_reducible rfl)
                  simp only [Act.put, List.setIfInBounds_toArray, List.set_cons_zero, List.set_cons_succ]
                  refine AnyU.take (i := 6) (v := ?v5) rfl (by kernel_rfl) (by kernel_rfl) (by kernel_rfl) (by kernel_rfl) (fun _ _ _ h => h) (Or.inl ⟨by rfl, ?hy5⟩) hHeld ?r5
                  case hy5 => (intro w hSw; (try dsimp only at hSw); go_simp <;> with_reducible rfl)
                  simp only [Act.put, List.setIfInBounds_toArray, List.set_cons_zero, List.set_cons_succ]
                  refine AnyU.take (i := 7) (v := ?v6) rfl (by kernel_rfl) (by kernel_rfl) (by kernel_rfl) (by kernel_rfl) (fun _ _ _ h => h) (Or.inl ⟨by rfl, ?hy6⟩) hHeld ?r6
                  case hy6 => (intro w hSw; (try dsimp only at hSw); go_simp <;> with_reducible rfl)
                  simp only [Act.put, List.setIfInBounds_toArray, List.set_cons_zero, List.set_cons_succ]
                  refine AnyU.take (i := 8) (v := ?v7) rfl (by kernel_rfl) (by kernel_rfl) (by kernel_rfl) (by kernel_rfl) (fun _ _ _ h => h) (Or.inl ⟨by rfl, ?hy7⟩) hHeld ?r7
                  case hy7 => (intro w hSw; (try dsimp only at hSw); go_simp <;> with_reducible rfl)
                  simp only [Act.put, List.setIfInBounds_toArray, List.set_cons_zero, List.set_cons_succ]
                  refine AnyU.next (js := [0]) (by kernel_rfl) (by simp) (NextU.cons rfl (fun K hK => ?_) NextU.nil)
                  go_simp
                  refine hK.out _ _ (fun _ => trivial) (fun hHeld => ?_)
                  clear hHeld hK K
                  have hHeld : True := trivial
                  try simp only [Act.put, List.setIfInBounds_toArray, List.set_cons_zero, List.set_cons_succ]
                  refine AnyU.next (js := [4]) (by kernel_rfl) (by simp) (NextU.cons rfl (fun K hK => ?_) NextU.nil)
                  refine step_append_any rfl (.tmp 124) (.tmp 127) 22 rfl wr.heap.size 67 (.agg #[.int .u32 0, .int .i64 0]) 2 16 infoO Tryd.underlying22 rfl (by decide) _ 0 [] rfl HO1.out _ (some ⟨gn, 0, none⟩) k _ (cells2 offV (nl.take k)) rfl (R1.out _ HBA.out) G1.out G3.out G4.out HBA.out.size ?_; intro v7 w7 hown7 hg7 _; have HO7 := hide hown7; have HB7 : Hid (Below wr.heap.size wr w7) := hide (HBA.out.grown hg7 HBA.out.size (fun j hj => by have := Option.some.inj (show some wr.heap.size = some j from hj); omega)); clear hown7 hg7
                  refine hK.out _ _ (fun _ => trivial) (fun hHeld => ?_)
                  clear hHeld hK K
                  have hHeld : True := trivial
                  try simp only [Act.put, List.setIfInBounds_toArray, List.set_cons_zero, List.set_cons_succ]
                  refine AnyU.next (js := [9]) (by kernel_rfl) (by simp) (NextU.cons rfl (fun K hK => ?_) NextU.nil)
                  refine step_append_any rfl (.tmp 128) (.tmp 132) 22 rfl wr.heap.size 67 (.agg #[.int .u32 0, .int .i64 0]) 2 16 infoO Tryd.underlying22 rfl (by decide) _ _ _ rfl HO7.out _ Ax (nl.length - (k + 1)) _ (cells2 offV (nl.drop (k + 1))) rfl (R2.out _ HB7.out) G2.out G5.out G6.out HB7.out.size ?_; intro v8 w8 hown8 hg8 _; rw [show 0 + k + (nl.length - (k + 1)) = (nl.take k ++ nl.drop (k + 1)).length by simp; omega, List.nil_append, ← cells2_append] at hown8; obtain ⟨A8, c8, hv8, _⟩ := own_sh hown8; subst hv8; have HO8 := hide hown8; have HB8 : Hid (Below wr.heap.size wr w8) := hide (HB7.out.grown hg8 HB7.out.size (fun j hj => (HO7.out.lt j hj).1)); clear hown8 hg8
                  refine hK.out _ _ (fun _ => trivial) (fun hHeld => ?_)
                  clear hHeld hK K
                  have hHeld : True := trivial
                  try simp only [Act.put, List.setIfInBounds_toArray, List.set_cons_zero, List.set_cons_succ]
                  refine AnyU.next (js := [10]) (by kernel_rfl) (by simp) (NextU.cons rfl (fun K hK => ?_) NextU.nil)
                  go_simp
                  refine hK.out _ _ (fun _ => trivial) (fun hHeld => ?_)
                  clear hHeld hK K
                  have hHeld : True := trivial
                  try simp only [Act.put, List.setIfInBounds_toArray, List.set_cons_zero, List.set_cons_succ]
                  refine AnyU.over (by kernel_rfl) ?_ _
                  clear R1 R2 G1 G2 G3 G4 G5 G6 HO1 HO7 HB7 HBA hHeld
                  have H1 : Hid (∀ W, Below wr.heap.size wr W → Calls Tryd.prog 26 #[.slice (some ⟨gn, 0, none⟩) nl.length cn, .int .u32 (ox.1 : Int)] W (ValPost (.tuple #[.int .i64 (worthL ox.1 nl).1, .int .i64 (worthL ox.1 nl).2]) W)) := hide (fun W hW => worth8_any (some ⟨gn, 0, none⟩) cn nl ox.1 hwo W (HNO.out W (bt B5.out hW)) (by omega) HWN.out)
                  have HLR : Hid ((nl.take k ++ nl.drop (k + 1)).length ≤ 1000000) := hide (by simp; omega)
                  have H2 : Hid (∀ W, Below w8.heap.size w8 W → Calls Tryd.prog 26 #[.slice A8 (k + (nl.length - (k + 1))) c8, .int .u32 (ox.1 : Int)] W (ValPost (.tuple #[.int .i64 (worthL ox.1 (nl.take k ++ nl.drop (k + 1))).1, .int .i64 (worthL ox.1 (nl.take k ++ nl.drop (k + 1))).2]) W)) := hide (fun W hW => by have := worth8_any A8 c8 (nl.take k ++ nl.drop (k + 1)) ox.1 hwo W ((Two.of_own HO8.out rfl).up hW) HLR.out (fun o ho => HWN.out o (by rcases List.mem_append.1 ho with h | h; exact List.mem_of_mem_take h; exact List.mem_of_mem_drop h)); rwa [show (nl.take k ++ nl.drop (k + 1)).length = k + (nl.length - (k + 1)) by simp; omega] at this)
                  generalize nl.take k ++ nl.drop (k + 1) = rs at *
                  generalize (worthL ox.1 nl).1 = v1 at *
                  generalize (worthL ox.1 nl).2 = v2 at H1
                  generalize (worthL ox.1 rs).1 = v3 at *
                  generalize (worthL ox.1 rs).2 = v4 at H2
                  have d0 := HD.out w8 HB8.out
                  go_wp2_with fail
                  refine (H1.out w8 HB8.out).mono ?_
                  rintro e w9 ⟨rfl, hb⟩
                  have HB9 := hide hb
                  replace HB8 := hide (bt HB8.out hb)
                  clear hb d0
                  have d0 := HD.out w9 HB8.out
                  go_wp2_with fail
                  refine (H2.out w9 HB9.out).mono ?_
                  rintro e w10 ⟨rfl, hb⟩
                  replace HB8 := hide (bt HB8.out hb)
                  clear hb d0 HB9 H1 H2
                  obtain ⟨cs, hcs, hblk⟩ := HAR.out
                  have hbl2 := (HB8.out.block _ (lt_of_block hblk)).trans hblk
                  have c10 : w10.cell? ⟨w5.heap.size, k, none⟩ = some (cs[k]'(by omega)) := by simp [World.cell?, hbl2, show k < cs.size by omega]
                  have f10 : w10.frozen? ⟨w5.heap.size, k, none⟩ = false := by simp [World.frozen?, hbl2]
                  generalize cs[k]'(by omega) = u10 at c10
                  have HBL := hide (setCell_block hbl2 k (.bool true))
                  have HB11 : Hid (Below w5.heap.size wt (w10.setCell ⟨w5.heap.size, k, none⟩ (.bool true))) := hide ((HB.out.trans (HB8.out.mono B5.out.size)).setCell (Nat.le_refl _) _)
                  have c11 : (w10.setCell ⟨w5.heap.size, k, none⟩ (.bool true)).cell? ⟨w5.heap.size, k, none⟩ = some (.bool true) := by simp [World.cell?, HBL.out, show k < cs.size by omega]
                  clear hbl2 hblk
                  go_wp2_with fail
                  go_roundw
                  case rel => exact ⟨k + 1, by omega, by go_num, HB11.out, ⟨_, by simpa using hcs, HBL.out⟩⟩
                  case measure => simp [intOf]; omega
                · obtain rfl : k = nl.length := by omega
                  replace HX := hide ((HB.out.block _ HXL.out).trans HX.out)
                  clear HAR HB HNEED
                  have hbb : (dq != dq) = false := by simp
                  go_wp2_with fail
                  refine (HSA.out wr B0.out).mono ?_
                  rintro e v7 ⟨rfl, hb⟩
                  replace B0 := hide (bt B0.out hb)
                  replace B5 := hide (bt B5.out hb)
                  replace HX := hide ((hb.block _ (lt_of_block HX.out)).trans HX.out)
                  clear hb
                  go_wp2_with fail
                  refine (HNN.out v7 B5.out).mono ?_
                  rintro e v8 ⟨Ak, ck, rfl, hk', hb⟩
                  replace B0 := hide (bt B0.out hb)
                  replace B5 := hide (bt B5.out hb)
                  have HK := hide hk'
                  clear hk'
                  replace HX := hide ((hb.block _ (lt_of_block HX.out)).trans HX.out)
                  clear hb
                  have HS1 := hide (sameOffers_any Ak ck nl An cn nl v8 (Two.of_own HK.out rfl) (HNO.out v8 B5.out) (by omega))
                  rw [decide_eq_true rfl] at HS1
                  go_wp2_with fail
                  refine (HS1.out).mono ?_
                  rintro e v9 ⟨rfl, hb⟩
                  replace B0 := hide (bt B0.out hb)
                  replace B5 := hide (bt B5.out hb)
                  clear HS1 HK
                  replace HX := hide ((hb.block _ (lt_of_block HX.out)).trans HX.out)
                  clear hb
                  have hy : v9.cell? ⟨w.heap.size, 0, none⟩ = some (.int .i64 y) := cell_of_row v9 _ 0 _ _ (0, 0) HX.out
                  have hz : v9.cell? ⟨w.heap.size, 1, none⟩ = some (.int .i64 z) := cell_of_row v9 _ 1 _ _ (0, 0) HX.out
                  go_wp2_with fail
                  go_quiet (fail)
                  clear hy hz HX B5 HNN HNO HN
                  have HDR : Hid (∀ k, Below w.heap.size w (v9.drewN k)) := hide (fun k => below_drewN B0.out k)
                  have HLW : Hid (∀ (cc : Int), -9223372036854775808 ≤ cc ∧ cc ≤ 9223372036854775807 → ∀ W, Below w.heap.size w W → Calls Tryd.prog 33 #[.int .i64 cc, .slice A a.length c] W (ClonePost (lowerL cc a) W)) := hide (fun cc hcc W hW => lower_any cc hcc A c a W (HOA.out.up hW) (by omega) HWA.out)
                  by_cases hgo : 0 ≤ y ∧ 0 ≤ z ∧ y ≤ 2199023255552 ∧ z ≤ 2199023255552
                  · obtain ⟨y0, z0, y1, z1⟩ := hgo
                    have n1 : ¬ (y < 0) := by omega
                    have n2 : ¬ (z < 0) := by omega
                    have n3 : ¬ ((2199023255552 : Int) < y) := by omega
                    have n4 : ¬ ((2199023255552 : Int) < z) := by omega
                    have hww : IntKind.i64.wrap (y + z) = y + z := Go.IntWalk.i64_in _ (by omega)
                    have HQ1 := hide (fun k => HLW.out y HYY.out _ (HDR.out k))
                    go_wp2_with fail
                    refine (HQ1.out _).mono ?_
                    rintro e u1 ⟨Ay, cy, rfl, hoy, hb⟩
                    have HOY := hide hoy
                    have B1 := hide (bt (HDR.out _) hb)
                    clear hb hoy HQ1
                    have HQ2 := hide (lower_any z HZZ.out Ay cy (lowerL y a) u1 (Two.of_own HOY.out rfl) (by have := lower_len y a; omega) (lower_wide HWA.out))
                    rw [HRM.out y z y0 z0] at HQ2
                    go_wp2_with fail
                    refine (HQ2.out).mono ?_
                    rintro e u2 ⟨Az, cz, rfl, hoz, hb⟩
                    have HOZ := hide hoz
                    replace B1 := hide (bt B1.out hb)
                    clear hb hoz HQ2 HOY
                    have HQ3 := hide (HLW.out (y + z) (by omega) u2 B1.out)
                    go_wp2_with fail
                    refine (HQ3.out).mono ?_
                    rintro e u3 ⟨As, cs', rfl, hos, hb⟩
                    have HOS := hide hos
                    have HOZ2 := hide ((Two.of_own HOZ.out rfl).up hb)
                    replace B1 := hide (bt B1.out hb)
                    clear hb hos HQ3 HOZ
                    have HS2 := hide (sameOffers_any Az cz (lowerL (y + z) a) As cs' (lowerL (y + z) a) u3 HOZ2.out (Two.of_own HOS.out rfl) (by have := lower_len (y + z) a; omega))
                    rw [decide_eq_true rfl] at HS2
                    go_wp2_with fail
                    refine (HS2.out).mono ?_
                    rintro e u4 ⟨rfl, hb⟩
                    replace B1 := hide (bt B1.out hb)
                    clear hb HS2
                    go_wp2_with fail
                    refine (HWK.out u4 B1.out).mono ?_
                    rintro e u5 ⟨rfl, hb⟩
                    have HEN := hide (bt B1.out hb)
                    clear hb
                    go_wp2_with fail
                    go_ret
                    exact ⟨rfl, HEN.out⟩
                  · have hcs : y < 0 ∨ (¬ (y < 0) ∧ z < 0) ∨ (¬ (y < 0) ∧ ¬ (z < 0) ∧ (2199023255552 : Int) < y) ∨ (¬ (y < 0) ∧ ¬ (z < 0) ∧ ¬ ((2199023255552 : Int) < y) ∧ (2199023255552 : Int) < z) := by omega
                    clear hgo
                    rcases hcs with h1 | ⟨h1, h2⟩ | ⟨h1, h2, h3⟩ | ⟨h1, h2, h3, h4⟩
                    all_goals
                      go_wp2_with fail
                      refine (HWK.out _ (HDR.out _)).mono ?_
                      rintro e u5 ⟨rfl, hb⟩
                      have HEN := hide (bt (HDR.out _) hb)
                      clear hb
                      go_wp2_with fail
                      go_ret
                      exact ⟨rfl, HEN.out⟩
end Go.Proofs.YtkiebjgpghajbaaDoor
