/- The library's stable sort: its own walk. -/
import Derived.Test.YtgjeihgkcmheeaaDoorStabL
namespace Go.Proofs.YtgjeihgkcmheeaaDoor
open Go.Shelf Go.RowKit Go.Lib Go.Sort Go.Proofs

section
variable {lt : Int → Int → Bool} {n q : Nat} {d d' : Array Int}
/-- The first q blocks of twenty are sorted, what follows is as it was. -/
def Blk (lt : Int → Int → Bool) (n q : Nat) (d : Array Int) : Prop := (∀ k, k < q → Good lt (k * 20) (k * 20 + 20) d) ∧ ∀ i, q * 20 ≤ i → i < n → d[i]! = (i : Int)
theorem Blk.step (hS : SWO lt) (h : Blk lt n q d) (hn : q * 20 + 20 ≤ n) (hz : n ≤ d.size) : PermIn (q * 20) (q * 20 + 20) d (insertionSort lt d (q * 20) (q * 20 + 20)) ∧ Blk lt n (q + 1) (insertionSort lt d (q * 20) (q * 20 + 20)) := by
  obtain ⟨h1, h2⟩ := good_ins hS (d := d) (a := q * 20) (b := q * 20 + 20) (by omega) (by omega) (fun i hi hib => h.2 i hi (by omega))
  refine ⟨h1, fun k hk => ?_, fun i hi hin => ?_⟩
  · by_cases e : k = q
    · subst e; exact h2
    · exact (h.1 k (by omega)).same h1 (.inl (by omega))
  · rw [h1.2.1 i (.inr (by omega))]
    exact h.2 i (by omega) hin
theorem Blk.last (hS : SWO lt) (h : Blk lt n q d) (hq : q * 20 ≤ n) (hn : n < q * 20 + 20) (hz : n ≤ d.size) : PermIn (q * 20) n d (insertionSort lt d (q * 20) n) ∧ Lvl lt 20 n (insertionSort lt d (q * 20) n) := by
  obtain ⟨h1, h2⟩ := good_ins hS (d := d) (a := q * 20) (b := n) hq hz (fun i hi hib => h.2 i hi hib)
  refine ⟨h1, fun k hk => ?_⟩
  rcases Nat.lt_trichotomy k q with e | e | e
  · rw [show min (k * 20 + 20) n = k * 20 + 20 by omega]
    exact (h.1 k e).same h1 (.inl (by omega))
  · subst e
    rw [show min (k * 20 + 20) n = n by omega]
    exact h2
  · omega
end

def StableP (cf : Int → Int → Int) (blk off : Nat) (d : Array Int) (w : World) (e : Ending) (w' : World) : Prop :=
  e = .returned (.tuple #[]) ∧ ∃ d', SW (Value.int .i64) w blk off d' w' ∧ PermIn 0 d.size d d' ∧ SortedIn (stb (ltOf cf)) 0 d.size d'

set_option maxHeartbeats 16000000 in
set_option maxRecDepth 1000000 in
theorem stable_any (cf : Int → Int → Int) (hO : SWO (ltOf cf)) (g : Nat) (cb : Array Value) (blk off cap : Nat) (d : Array Int) (w : World) (eg : ∀ args w, (callFunc g args).run Tryd.prog w = .ok (.enter g args) w) {V : Int → Prop} (hcmp : CmpV V g cb cf blk off d.size w)
    (R : Row1 (Value.int .i64) w blk off d) (hr : ∀ i, i < d.size → d[i]! = (i : Int)) (hV : ∀ t, t < d.size → V d[t]!) (hsz : d.size ≤ 1000000) :
    Calls Tryd.prog 62 #[.slice (some ⟨blk, off, none⟩) d.size cap, .int .i64 (d.size : Int), .func (.func g) #[] cb] w (StableP cf blk off d w) := by
  have HO := hide hO
  have S0 : Aside (SW (Value.int .i64) w blk off d w) := SW.start R.hH
  have HB0 : Hid (Blk (ltOf cf) d.size 0 d) := hide ⟨fun k hk => by omega, fun i _ hi => hr i hi⟩
  have HINS : Hid (∀ (a b : Nat) (dk : Array Int) (W : World), dk.size = d.size → PermIn 0 d.size d dk → SW (Value.int .i64) w blk off dk W → a ≤ b → b ≤ d.size → Calls Tryd.prog 75 #[.slice (some ⟨blk, off, none⟩) d.size cap, .int .i64 a, .int .i64 b, .func (.func g) #[] cb] W fun e w' => e = .returned (.tuple #[]) ∧ SW (Value.int .i64) w blk off (insertionSort (ltOf cf) dk a b) w') := hide (fun a b dk W hz hp hW hab hb => by
    rw [← hz]
    exact insSort_any cf g cb blk off cap a b d dk w W eg hcmp R hz.symm hW hab (by omega) (by rw [hz]; exact perm_all (Nat.le_refl _) hp hV) (by omega))
  have HSYM := hide (symMerge_any cf hO g cb blk off cap d w eg hcmp R (by omega) (d.size + 1))
  unfold SymIH at HSYM
  have HVP : Hid (∀ d1 : Array Int, PermIn 0 d.size d d1 → ∀ t, t < d.size → V d1[t]!) := hide (fun d1 hp => perm_all (Nat.le_refl _) hp hV)
  obtain ⟨n, hn⟩ : ∃ n, n = d.size := ⟨_, rfl⟩
  have HN := hide hn
  rw [← hn] at HB0 HINS HSYM HVP hsz ⊢
  clear hO hcmp hr hn hV
  go_enter Tryd.func62, Tryd.ntmps62
  go_wp2
  go_loopg [7, 8] (n + 1) (fun g1 va vb wr => ∃ (q : Nat) (dk : Array Int), va = .int .i64 ((q * 20 : Nat) : Int) ∧ vb = .int .i64 ((q * 20 + 20 : Nat) : Int) ∧ q * 20 ≤ n ∧ n + 1 ≤ q * 20 + g1 ∧ dk.size = n ∧ Aside (SW (Value.int .i64) w blk off dk wr) ∧ Hid (Blk (ltOf cf) n q dk) ∧ Hid (PermIn 0 n d dk))
  case atStart => exact ⟨0, d, by first | rfl | go_num, by first | rfl | go_num, by omega, by omega, HN.out.symm, S0, HB0, hide (permIn_refl d 0 n)⟩
  case round =>
    clear S0 HB0
    obtain ⟨q, dk, rfl, rfl, hqn, hg1, hzk, S1, HB, HP⟩ := hrel
    obtain ⟨a, ha⟩ : ∃ a, a = q * 20 := ⟨_, rfl⟩
    have HA := hide ha
    have hab : ((q * 20 : Nat) : Int) = (a : Int) := by omega
    have hbb : ((q * 20 + 20 : Nat) : Int) = (a : Int) + 20 := by omega
    rw [hab, hbb]
    clear hab hbb
    by_cases hlt : a + 20 ≤ n
    · have hltz : (a : Int) + 20 ≤ (n : Int) := by omega
      have hst := Blk.step HO.out HB.out (by omega) (by omega)
      have HC := hide (HINS.out (q * 20) (q * 20 + 20) dk wr hzk HP.out S1.out (by omega) (by omega))
      rw [← HA.out] at HC hst
      have HST := hide hst
      have hcb : ((a + 20 : Nat) : Int) = (a : Int) + 20 := by omega
      rw [hcb] at HC
      have hw1 : IntKind.i64.wrap ((a : Int) + 20 + 20) = (a : Int) + 20 + 20 := by rw [IntKind.wrap_i64]; omega
      clear hst hcb S1 ha
      go_wp2_with fail
      refine (HC.out).mono ?_
      rintro e w2 ⟨rfl, S2⟩
      have S3 : Aside (SW (Value.int .i64) w blk off (insertionSort (ltOf cf) dk a (a + 20)) w2) := S2
      have HP2 : Hid (PermIn 0 n d (insertionSort (ltOf cf) dk a (a + 20))) := hide (permIn_trans _ _ _ 0 n HP.out (permIn_mono _ _ _ _ 0 n (by omega) (by omega) (by omega) HST.out.1))
      clear S2 HC HP
      go_wp2_with fail
      go_roundg (n + 1 - (a + 20))
      case measure => have := HA.out; omega
      case rel => exact ⟨q + 1, insertionSort (ltOf cf) dk a (a + 20), by first | go_num | (congr 1; have := HA.out; omega), by first | go_num | (congr 1; have := HA.out; omega), by have := HA.out; omega, by have := HA.out; omega, by rw [HST.out.1.1]; exact hzk, S3, hide HST.out.2, HP2⟩
    · have hltz : ¬ (a : Int) + 20 ≤ (n : Int) := by omega
      have hst := Blk.last HO.out HB.out (by omega) (by omega) (by omega)
      have HC := hide (HINS.out (q * 20) n dk wr hzk HP.out S1.out (by omega) (by omega))
      rw [← HA.out] at HC hst
      have HST := hide hst
      clear hst S1 ha
      go_wp2_with fail
      refine (HC.out).mono ?_
      rintro e w2 ⟨rfl, S2⟩
      have S3 : Aside (SW (Value.int .i64) w blk off (insertionSort (ltOf cf) dk a n) w2) := S2
      have HP2 : Hid (PermIn 0 n d (insertionSort (ltOf cf) dk a n)) := hide (permIn_trans _ _ _ 0 n HP.out (permIn_mono _ _ _ _ 0 n (by omega) (by omega) (by omega) HST.out.1))
      have HL : Hid (Lvl (ltOf cf) 20 n (insertionSort (ltOf cf) dk a n)) := hide HST.out.2
      have hz2 : (insertionSort (ltOf cf) dk a n).size = n := by rw [HST.out.1.1]; exact hzk
      clear S2 HC HP HST
      generalize insertionSort (ltOf cf) dk a n = d2 at *
      go_wp2_with fail
      obtain ⟨wo, rfl⟩ : ∃ wo : World, wo = w2 := ⟨_, rfl⟩
      go_loopg [6] n (fun g2 vb wr2 => ∃ (bs : Nat) (dk : Array Int), vb = .int .i64 bs ∧ 20 ≤ bs ∧ bs ≤ 2 * n + 20 ∧ n ≤ bs + g2 ∧ dk.size = n ∧ Aside (SW (Value.int .i64) w blk off dk wr2) ∧ Hid (Lvl (ltOf cf) bs n dk) ∧ Hid (PermIn 0 n d dk))
      case atStart => exact ⟨20, d2, by first | rfl | go_num, Nat.le_refl _, by omega, by omega, hz2, S3, HL, HP2⟩
      case round =>
        clear S3 HL HP2 hz2 HB hlt hltz HA hqn hg1 hzk
        obtain ⟨bs, dk2, rfl, hb1, hb2, hg2, hzk2, S1, HLV, HPV⟩ := hrel
        by_cases hbn : bs < n
        · have hbz : (bs : Int) < (n : Int) := by omega
          have hw1 : IntKind.i64.wrap (2 * (bs : Int)) = 2 * (bs : Int) := by rw [IntKind.wrap_i64]; omega
          go_wp2_with fail
          obtain ⟨wo2, rfl⟩ : ∃ wo : World, wo = wr := ⟨_, rfl⟩
          go_loopg [7, 8] (n + 1) (fun g3 va vb wr3 => ∃ (p a : Nat) (dk : Array Int), va = .int .i64 (a : Int) ∧ vb = .int .i64 ((a + 2 * bs : Nat) : Int) ∧ a ≤ n ∧ n + 1 ≤ a + g3 ∧ dk.size = n ∧ Hid (a = p * (2 * bs)) ∧ Aside (SW (Value.int .i64) w blk off dk wr3) ∧ Hid (Mid (ltOf cf) bs n p dk) ∧ Hid (PermIn 0 n d dk))
          case atStart => exact ⟨0, 0, dk2, by first | rfl | go_num, by first | rfl | go_num | (congr 1; omega), by omega, by omega, hzk2, hide (by omega), S1, hide (Mid.start HLV.out), HPV⟩
          case round =>
            clear S1 HLV HPV hzk2 hw1
            obtain ⟨p, a, dk, rfl, rfl, han, hg3, hzk, HA, S1, HM, HP⟩ := hrel
            have hcb : ((a + 2 * bs : Nat) : Int) = (a : Int) + 2 * (bs : Int) := by omega
            rw [hcb]
            clear hcb
            have hw2 : IntKind.i64.wrap ((a : Int) + (bs : Int)) = (a : Int) + (bs : Int) := by rw [IntKind.wrap_i64]; omega
            have hcm : ((a + bs : Nat) : Int) = (a : Int) + (bs : Int) := by omega
            by_cases hlt : a + 2 * bs ≤ n
            · have hltz : (a : Int) + 2 * (bs : Int) ≤ (n : Int) := by omega
              have hpr := HM.out.pair (by omega) (by have := HA.out; omega)
              rw [← HA.out, show min (a + 2 * bs) n = a + 2 * bs by omega] at hpr
              have HC := hide (HSYM.out a (a + bs) (a + 2 * bs) dk wr (by omega) (by have := HN.out; omega) (HVP.out _ HP.out) S1.out (by omega) (by omega) (by have := HN.out; omega) hpr.1.1 hpr.2.1 (Good.cross hpr.1 hpr.2))
              rw [hcm, show ((a + 2 * bs : Nat) : Int) = (a : Int) + 2 * (bs : Int) by omega] at HC
              have hw1 : IntKind.i64.wrap (2 * (bs : Int)) = 2 * (bs : Int) := by rw [IntKind.wrap_i64]; omega
              have hw3 : IntKind.i64.wrap ((a : Int) + 2 * (bs : Int) + 2 * (bs : Int)) = (a : Int) + 2 * (bs : Int) + 2 * (bs : Int) := by rw [IntKind.wrap_i64]; omega
              clear hpr S1 hcm
              go_wp2_with fail
              refine (HC.out).mono ?_
              rintro e w3 ⟨rfl, d3, S2, hz3, hp3, hs3⟩
              have S3 : Aside (SW (Value.int .i64) w blk off d3 w3) := S2
              have HM3 : Hid (Mid (ltOf cf) bs n (p + 1) d3) := hide (by
                rw [HA.out] at hp3 hs3
                exact HM.out.step (by omega) (by have := HA.out; omega) (by omega) hp3 hs3)
              have HP3 : Hid (PermIn 0 n d d3) := hide (permIn_trans _ _ _ 0 n HP.out (permIn_mono _ _ _ _ 0 n (by omega) (by omega) (by omega) hp3))
              clear S2 hp3 hs3 HC HM HP
              go_wp2_with fail
              go_roundg (n + 1 - (a + 2 * bs))
              case measure => omega
              case rel => exact ⟨p + 1, a + 2 * bs, d3, by first | go_num | (congr 1; omega), by first | go_num | (congr 1; omega), by omega, by omega, hz3.trans hzk, hide (by rw [HA.out, Nat.add_mul, Nat.one_mul]), S3, HM3, HP3⟩
            · have hltz : ¬ (a : Int) + 2 * (bs : Int) ≤ (n : Int) := by omega
              have hw4 : IntKind.i64.wrap ((bs : Int) * 2) = (bs : Int) * 2 := by rw [IntKind.wrap_i64]; omega
              have hc4 : ((bs * 2 : Nat) : Int) = (bs : Int) * 2 := by omega
              have HC4 := hide hc4
              clear hc4
              by_cases hm : a + bs < n
              · have hmz : (a : Int) + (bs : Int) < (n : Int) := by omega
                have hpr := HM.out.pair (by omega) (by have := HA.out; omega)
                rw [← HA.out, show min (a + 2 * bs) n = n by omega] at hpr
                have HC := hide (HSYM.out a (a + bs) n dk wr (by omega) (by have := HN.out; omega) (HVP.out _ HP.out) S1.out (by omega) (by omega) (by have := HN.out; omega) hpr.1.1 hpr.2.1 (Good.cross hpr.1 hpr.2))
                rw [hcm] at HC
                clear hpr S1 hcm
                go_wp2_with fail
                refine (HC.out).mono ?_
                rintro e w3 ⟨rfl, d3, S2, hz3, hp3, hs3⟩
                have S3 : Aside (SW (Value.int .i64) w blk off d3 w3) := S2
                have HM3 : Hid (Lvl (ltOf cf) (bs * 2) n d3) := hide (by
                  rw [HA.out] at hp3 hs3
                  rcases HM.out.merged (by omega) (by have := HA.out; omega) (by have := HA.out; omega) (by omega) hp3 hs3 with ⟨h5, h6⟩ | h5
                  · exact h5.up (by omega) (by have := HA.out; omega) (by have := HA.out; omega) (fun _ => h6)
                  · exact h5)
                have HP3 : Hid (PermIn 0 n d d3) := hide (permIn_trans _ _ _ 0 n HP.out (permIn_mono _ _ _ _ 0 n (by omega) (by omega) (by omega) hp3))
                clear S2 hp3 hs3 HC HM HP
                go_wp2_with fail
                go_roundg (n - bs * 2)
                case measure => omega
                case rel => exact ⟨bs * 2, d3, by rw [HC4.out], by omega, by omega, by omega, hz3.trans hzk, S3, HM3, HP3⟩
              · have hmz : ¬ (a : Int) + (bs : Int) < (n : Int) := by omega
                have HM3 : Hid (Lvl (ltOf cf) (bs * 2) n dk) := hide (HM.out.up (by omega) (by have := HA.out; omega) (by have := HA.out; omega) (fun h0 => HM.out.last (by have := HA.out; omega) h0))
                clear hcm
                go_wp2_with fail
                go_roundg (n - bs * 2)
                case measure => omega
                case rel => exact ⟨bs * 2, dk, by rw [HC4.out], by omega, by omega, by omega, hzk, S1, HM3, HP⟩
        · have hbz : ¬ (bs : Int) < (n : Int) := by omega
          go_wp2_with fail
          go_end0
          refine ⟨rfl, dk2, S1.out, ?_, ?_⟩
          · rw [← HN.out]; exact HPV.out
          · rw [← HN.out]
            rcases Nat.eq_zero_or_pos n with h0 | h0
            · intro i j hi hij hj; omega
            · exact (lvl_all HLV.out (by omega) h0).1
end Go.Proofs.YtgjeihgkcmheeaaDoor
