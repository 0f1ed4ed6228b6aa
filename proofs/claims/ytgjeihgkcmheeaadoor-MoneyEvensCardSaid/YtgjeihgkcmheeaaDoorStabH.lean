/- The library's stable sort: the walk of its merge, the other great case. -/
import Derived.Test.YtgjeihgkcmheeaaDoorStabG
namespace Go.Proofs.YtgjeihgkcmheeaaDoor
open Go.Shelf Go.RowKit Go.Lib Go.Sort Go.Proofs

set_option maxHeartbeats 32000000 in
set_option maxRecDepth 1000000 in
theorem symGb_any (cf : Int → Int → Int) (hO : SWO (ltOf cf)) (g : Nat) (cb : Array Value) (blk off cap a m b : Nat) (d0 d : Array Int) (w0 w : World) (eg : ∀ args w, (callFunc g args).run Tryd.prog w = .ok (.enter g args) w) {V : Int → Prop} (hcmp : CmpV V g cb cf blk off d0.size w0)
    (R : Row1 (Value.int .i64) w0 blk off d0) (hs : d0.size = d.size) (S : SW (Value.int .i64) w0 blk off d w) (ham : a + 1 < m) (hmb : m + 1 < b) (hb : b ≤ d.size) (hV : ∀ t, t < d.size → V d[t]!) (hsz : d.size < 4611686018427387904) (h1 : SortedIn (stb (ltOf cf)) a m d) (h2 : SortedIn (stb (ltOf cf)) m b d) (hc : Cross a m b d)
    (hmm : m ≤ (a + b) / 2) (ih : SymIH V cf g cb blk off cap d.size w0 (b - a)) :
    Calls Tryd.prog 76 #[.slice (some ⟨blk, off, none⟩) d.size cap, .int .i64 a, .int .i64 m, .int .i64 b, .func (.func g) #[] cb] w (MergeP cf w0 blk off a b d) := by
  have S0 : Aside (SW (Value.int .i64) w0 blk off d w) := S
  have HC : Aside _ := hcmp
  have HVV := hide hV
  have HVP : Hid (∀ d1 : Array Int, d1.size = d.size → PermIn a b d d1 → ∀ t, t < d.size → V d1[t]!) := hide (fun d1 _ hp => perm_all hb hp hV)
  have H1 := hide h1
  have H2 := hide h2
  have HX := hide hc
  have HO := hide hO
  have IH := hide ih
  have HT := hide (stb_swo hO)
  have mixed : Tryd.prog.follows .mixedOrders = true := by kernel_rfl
  have hw0 : IntKind.i64.wrap ((m : Int) - (a : Int)) = (m : Int) - (a : Int) := by rw [IntKind.wrap_i64]; omega
  have hq0 : ((m : Int) - (a : Int) == 1) = false := by rw [beq_eq_false_iff_ne]; omega
  have hw1 : IntKind.i64.wrap ((b : Int) - (m : Int)) = (b : Int) - (m : Int) := by rw [IntKind.wrap_i64]; omega
  have hq1 : ((b : Int) - (m : Int) == 1) = false := by rw [beq_eq_false_iff_ne]; omega
  obtain ⟨mid, hmid⟩ : ∃ mid : Nat, ((a : Int) + (b : Int)) / 2 = (mid : Int) := ⟨(a + b) / 2, by omega⟩
  have hwab : IntKind.i64.wrap ((a : Int) + (b : Int)) = (a : Int) + (b : Int) := by rw [IntKind.wrap_i64]; omega
  have hm1 : 2 * mid ≤ a + b := by omega
  have hm2 : a + b ≤ 2 * mid + 1 := by omega
  have hwn : IntKind.i64.wrap ((mid : Int) + (m : Int)) = (mid : Int) + (m : Int) := by rw [IntKind.wrap_i64]; omega
  have hwp : IntKind.i64.wrap ((mid : Int) + (m : Int) - 1) = (mid : Int) + (m : Int) - 1 := by rw [IntKind.wrap_i64]; omega
  have hmm' : m ≤ mid := by omega
  have hk1 : a ≤ a ∧ a ≤ m ∧ m ≤ m ∧ m ≤ mid ∧ mid + m ≤ b + a ∧ m + m ≤ mid + m := by omega
  have HK2 : Hid (∀ s e, e + s = mid + m → (s = a → s = a ∨ e = b) ∧ (s = m → s = m ∨ e = m)) := hide (fun s e he => by omega)
  obtain ⟨k1, k2, k3, k4, k5, k6⟩ := hk1
  clear S hV hcmp h1 h2 hc hO ih hmm
  have hgt : decide ((m : Int) > (mid : Int)) = false := decide_eq_false (by omega)
  have hgt2 : ¬ (mid : Int) < (m : Int) := by omega
  go_enter Tryd.func76, Tryd.ntmps76
  go_wp2
  clear hw0 hq0 hw1 hq1 hwab hwn hwp hgt hgt2 hmid

  go_loopg [20, 21] (m - a) (fun g1 vs vr wr => ∃ (s r : Nat), vs = .int .i64 s ∧ vr = .int .i64 r ∧ a ≤ s ∧ s ≤ r ∧ r ≤ m ∧ r - s ≤ g1 ∧ Aside (SW (Value.int .i64) w0 blk off d wr) ∧ Hid ((s = a ∨ ltOf cf d[mid + m - s]! d[s - 1]! = false) ∧ (r = m ∨ ltOf cf d[mid + m - 1 - r]! d[r]! = true)))
  case atStart => exact ⟨a, m, by first | rfl | go_num | (congr 1; omega), by first | rfl | go_num, Nat.le_refl _, k2, Nat.le_refl _, Nat.le_refl _, S0, hide ⟨.inl rfl, .inl rfl⟩⟩
  case round =>
    clear S0
    obtain ⟨s, r, rfl, rfl, hss, hsr, hrr, hg1, S1, HV⟩ := hrel
    by_cases hlt : s < r
    · have hltz : (s : Int) < (r : Int) := by omega
      obtain ⟨h, hh⟩ : ∃ h : Nat, ((s : Int) + (r : Int)) / 2 = (h : Int) := ⟨(s + r) / 2, by omega⟩
      have hih : s ≤ h := by omega
      have hhj : h < r := by omega
      have hw1 : IntKind.i64.wrap ((s : Int) + (r : Int)) = (s : Int) + (r : Int) := by rw [IntKind.wrap_i64]; omega
      have hw3 : IntKind.i64.wrap ((mid : Int) + (m : Int) - 1 - (h : Int)) = (mid : Int) + (m : Int) - 1 - (h : Int) := by rw [IntKind.wrap_i64]; omega
      have p1 : (0 : Int) ≤ (mid : Int) + (m : Int) - 1 - (h : Int) := by omega
      have p2 : (h : Int) ≤ (mid : Int) + (m : Int) - 1 := by omega
      have l1 : (mid : Int) + (m : Int) - 1 - (h : Int) < (d.size : Int) := by omega
      have l2 : (h : Int) < (d.size : Int) := by omega
      obtain ⟨jN, hjN⟩ : ∃ q, q = mid + m - 1 - h := ⟨_, rfl⟩
      have e1 : ((mid : Int) + (m : Int) - 1 - (h : Int)).toNat = jN := by omega
      obtain ⟨x, hx⟩ : ∃ x, x = d[mid + m - 1 - h]! := ⟨_, rfl⟩
      obtain ⟨y, hy⟩ : ∃ x, x = d[h]! := ⟨_, rfl⟩
      have la := S1.out.cl R hs.symm (mid + m - 1 - h) (by omega)
      have lb := S1.out.cl R hs.symm h (by omega)
      rw [← hx, ← hjN] at la
      rw [← hy] at lb
      have hcm := cmp_at S1.out HC.out hs.symm x y (by rw [hx]; exact HVV.out _ (by omega)) (by rw [hy]; exact HVV.out _ (by omega))
      by_cases hlv : cf x y < 0
      · have hv : decide (cf x y < 0) = true := decide_eq_true hlv
        have HV2 : Hid ((s = a ∨ ltOf cf d[mid + m - s]! d[s - 1]! = false) ∧ (h = m ∨ ltOf cf d[mid + m - 1 - h]! d[h]! = true)) := hide ⟨HV.out.1, .inr (by rw [← hx, ← hy]; exact hv)⟩
        clear hx hy hjN
        go_wp2_with fail
        go_quiet_grown (first | (go_at_fn g; refine Calls.grown_of (hcm _ _)))
        have S2 : Aside (SW (Value.int .i64) w0 blk off d (grow (wr.drewN nq) osq)) := S1.out.grown nq osq
        clear la lb hcm S1
        generalize grow (wr.drewN nq) osq = w2 at S2 ⊢
        clear nq osq e1
        go_wp2
        go_roundg (h - s)
        case measure => omega
        case rel => exact ⟨s, h, rfl, rfl, by omega, by omega, by omega, by omega, S2, HV2⟩
      · have hv : decide (cf x y < 0) = false := decide_eq_false hlv
        have HV2 : Hid ((h + 1 = a ∨ ltOf cf d[mid + m - (h + 1)]! d[h + 1 - 1]! = false) ∧ (r = m ∨ ltOf cf d[mid + m - 1 - r]! d[r]! = true)) := hide ⟨.inr (by rw [Nat.add_sub_cancel, show mid + m - (h + 1) = mid + m - 1 - h by omega, ← hx, ← hy]; exact hv), HV.out.2⟩
        clear hx hy hjN
        go_wp2_with fail
        go_quiet_grown (first | (go_at_fn g; refine Calls.grown_of (hcm _ _)))
        have S2 : Aside (SW (Value.int .i64) w0 blk off d (grow (wr.drewN nq) osq)) := S1.out.grown nq osq
        clear la lb hcm S1
        generalize grow (wr.drewN nq) osq = w2 at S2 ⊢
        clear nq osq e1
        have hw2 : IntKind.i64.wrap ((h : Int) + 1) = (h : Int) + 1 := by rw [IntKind.wrap_i64]; omega
        go_wp2
        go_roundg (r - (h + 1))
        case measure => omega
        case rel => exact ⟨h + 1, r, by go_num, rfl, by omega, by omega, by omega, by omega, S2, HV2⟩
    · have hltz : ¬ (s : Int) < (r : Int) := by omega
      obtain rfl : s = r := by omega
      obtain ⟨e, he⟩ : ∃ e : Nat, e + s = mid + m := ⟨mid + m - s, by omega⟩
      obtain ⟨q1, q2⟩ := HK2.out s e he
      have hle : m ≤ e := by omega
      have heb : e ≤ b := by omega
      have hem : s + (e - m) = mid := by omega
      have HD1 : Hid (∀ d1 : Array Int, (∀ x, d1[x]! = rotv d s m e x) → (SortedIn (stb (ltOf cf)) a s d1 ∧ SortedIn (stb (ltOf cf)) s mid d1 ∧ Cross a s mid d1) ∧ (SortedIn (stb (ltOf cf)) mid e d1 ∧ SortedIn (stb (ltOf cf)) e b d1 ∧ Cross mid e b d1) ∧ ∀ i j, a ≤ i → i < mid → mid ≤ j → j < b → stb (ltOf cf) d1[j]! d1[i]! = false) := hide (fun d1 hd1 => by
        have h5 := halves HO.out H1.out H2.out HX.out (by omega) (by omega) hle heb (by
          rcases HV.out.1 with c | c
          · rcases q1 c with c | c
            · exact .inl c
            · exact .inr (.inl c)
          · exact .inr (.inr (by rw [show e = mid + m - s by omega]; exact c))) (by
          rcases HV.out.2 with c | c
          · rcases q2 c with c | c
            · exact .inl c
            · exact .inr (.inl c)
          · exact .inr (.inr (by rw [show e - 1 = mid + m - 1 - s by omega]; exact c))) hd1
        rw [hem] at h5
        exact h5)
      have hwe : IntKind.i64.wrap ((mid : Int) + (m : Int) - (s : Int)) = (e : Int) := by rw [IntKind.wrap_i64]; omega
      have hE : (mid : Int) + (m : Int) - (s : Int) = (e : Int) := by omega
      have HROT : Hid (s < m → m < e → ∀ W, SW (Value.int .i64) w0 blk off d W → Calls Tryd.prog 91 #[.slice (some ⟨blk, off, none⟩) d.size cap, .int .i64 s, .int .i64 m, .int .i64 e, .func (.func g) #[] cb] W fun e' w' => e' = .returned (.tuple #[]) ∧ ∃ d', SW (Value.int .i64) w0 blk off d' w' ∧ d'.size = d.size ∧ (∀ x, d'[x]! = rotv d s m e x) ∧ PermIn s e d d') := hide (fun u1 u2 W hW => rotate_any g cb blk off cap s m e d0 d w0 W R hs hW u1 u2 (by omega) hsz)
      clear HV q1 q2 hlt hltz hg1 hsr
      go_upto_region 39 with (fail)
      go_cut [185] from 178 to 185 (fun v wx => v = .bool (decide (s < m ∧ m < e)) ∧ wx = wr)
      case first =>
        rcases (by omega : (s < m ∧ m < e) ∨ ¬ s < m ∨ (s < m ∧ ¬ m < e)) with r1 | r1 | r1
        · have t1 : (s : Int) < (m : Int) := by omega
          have t2 : (m : Int) < (e : Int) := by omega
          have hd : decide (s < m ∧ m < e) = true := decide_eq_true r1
          go_wp2_with fail
          go_meet
          exact ⟨by rw [hd], rfl⟩
        · have t1 : decide ((s : Int) < (m : Int)) = false := decide_eq_false (by omega)
          have t2 : ¬ (s : Int) < (m : Int) := by omega
          have hd : decide (s < m ∧ m < e) = false := decide_eq_false (by omega)
          go_wp2_with fail
          go_meet
          exact ⟨by rw [hd], rfl⟩
        · have t1 : (s : Int) < (m : Int) := by omega
          have t2 : ¬ (m : Int) < (e : Int) := by omega
          have hd : decide (s < m ∧ m < e) = false := decide_eq_false (by omega)
          go_wp2_with fail
          go_meet
          exact ⟨by rw [hd], rfl⟩
      case rest =>
        obtain ⟨rfl, rfl⟩ := hcut
        go_upto_if 185 with (fail)
        go_cut [191] from 185 to 191 (fun _ wx => ∃ d1 : Array Int, Aside (SW (Value.int .i64) w0 blk off d1 wx) ∧ d1.size = d.size ∧ Hid (PermIn a b d d1) ∧ Hid (∀ x, d1[x]! = rotv d s m e x))
        case first =>
          by_cases r1 : s < m ∧ m < e
          · have hd : decide (s < m ∧ m < e) = true := decide_eq_true r1
            go_wp2_with fail
            refine (HROT.out r1.1 r1.2 _ S1.out).mono ?_
            rintro e1' w1 ⟨rfl, d1, SA, hz1, hv1, hp1⟩
            have S4 : Aside (SW (Value.int .i64) w0 blk off d1 w1) := SA
            have HV1 := hide hv1
            have HP1 : Hid (PermIn a b d d1) := hide (permIn_mono _ _ _ _ a b (by omega) (by omega) (by omega) hp1)
            clear SA hv1 hp1 S1
            go_wp2_with fail
            go_meet
            exact ⟨d1, S4, hz1, HP1, HV1⟩
          · have hd : decide (s < m ∧ m < e) = false := decide_eq_false r1
            go_wp2_with fail
            go_meet
            exact ⟨d, S1, rfl, hide (permIn_refl d a b), hide (fun x => (rotv_none d (by omega) x (by omega) (by omega)).symm)⟩
        case rest =>
          obtain ⟨d1, S4, hz1, HP1, HV1⟩ := hcut
          have HDD := hide (HD1.out d1 HV1.out)
          clear S1
          go_upto_region 41 with (fail)
          go_cut [199] from 192 to 199 (fun v wx => v = .bool (decide (a < s ∧ s < mid)) ∧ wx = wc)
          case first =>
            rcases (by omega : (a < s ∧ s < mid) ∨ ¬ a < s ∨ (a < s ∧ ¬ s < mid)) with r1 | r1 | r1
            · have t1 : (a : Int) < (s : Int) := by omega
              have t2 : (s : Int) < (mid : Int) := by omega
              have hd : decide (a < s ∧ s < mid) = true := decide_eq_true r1
              go_wp2_with fail
              go_meet
              exact ⟨by rw [hd], rfl⟩
            · have t1 : decide ((a : Int) < (s : Int)) = false := decide_eq_false (by omega)
              have t2 : ¬ (a : Int) < (s : Int) := by omega
              have hd : decide (a < s ∧ s < mid) = false := decide_eq_false (by omega)
              go_wp2_with fail
              go_meet
              exact ⟨by rw [hd], rfl⟩
            · have t1 : (a : Int) < (s : Int) := by omega
              have t2 : ¬ (s : Int) < (mid : Int) := by omega
              have hd : decide (a < s ∧ s < mid) = false := decide_eq_false (by omega)
              go_wp2_with fail
              go_meet
              exact ⟨by rw [hd], rfl⟩
          case rest =>
            obtain ⟨rfl, rfl⟩ := hcut
            go_upto_if 199 with (fail)
            go_cut [205] from 199 to 205 (fun _ wx => ∃ d2 : Array Int, Aside (SW (Value.int .i64) w0 blk off d2 wx) ∧ d2.size = d1.size ∧ Hid (PermIn a mid d1 d2) ∧ Hid (SortedIn (stb (ltOf cf)) a mid d2))
            case first =>
              by_cases r1 : a < s ∧ s < mid
              · have hd : decide (a < s ∧ s < mid) = true := decide_eq_true r1
                have HL := hide (IH.out a s mid d1 _ (by omega) hz1 (HVP.out _ hz1 HP1.out) S4.out r1.1 r1.2 (by omega) HDD.out.1.1 HDD.out.1.2.1 HDD.out.1.2.2)
                go_wp2_with fail
                refine (HL.out).mono ?_
                rintro e2' w2 ⟨rfl, d2, SA, hz2, hp2, hsl⟩
                have S5 : Aside (SW (Value.int .i64) w0 blk off d2 w2) := SA
                have HP2 : Hid (PermIn a mid d1 d2) := hide hp2
                have HSL := hide hsl
                clear SA hp2 hsl S4 HL
                go_wp2_with fail
                go_meet
                exact ⟨d2, S5, hz2, HP2, HSL⟩
              · have hd : decide (a < s ∧ s < mid) = false := decide_eq_false r1
                have HSL : Hid (SortedIn (stb (ltOf cf)) a mid d1) := hide (by
                  rcases (by omega : a = s ∨ s = mid) with r2 | r2
                  · subst r2; exact HDD.out.1.2.1
                  · subst r2; exact HDD.out.1.1)
                go_wp2_with fail
                go_meet
                exact ⟨d1, S4, rfl, hide (permIn_refl d1 a mid), HSL⟩
            case rest =>
              obtain ⟨d2, S5, hz2, HP2, HSL⟩ := hcut
              clear S4
              go_upto_region 43 with (fail)
              go_cut [213] from 206 to 213 (fun v wx => v = .bool (decide (mid < e ∧ e < b)) ∧ wx = wc)
              case first =>
                rcases (by omega : (mid < e ∧ e < b) ∨ ¬ mid < e ∨ (mid < e ∧ ¬ e < b)) with r1 | r1 | r1
                · have t1 : (mid : Int) < (e : Int) := by omega
                  have t2 : (e : Int) < (b : Int) := by omega
                  have hd : decide (mid < e ∧ e < b) = true := decide_eq_true r1
                  go_wp2_with fail
                  go_meet
                  exact ⟨by rw [hd], rfl⟩
                · have t1 : decide ((mid : Int) < (e : Int)) = false := decide_eq_false (by omega)
                  have t2 : ¬ (mid : Int) < (e : Int) := by omega
                  have hd : decide (mid < e ∧ e < b) = false := decide_eq_false (by omega)
                  go_wp2_with fail
                  go_meet
                  exact ⟨by rw [hd], rfl⟩
                · have t1 : (mid : Int) < (e : Int) := by omega
                  have t2 : ¬ (e : Int) < (b : Int) := by omega
                  have hd : decide (mid < e ∧ e < b) = false := decide_eq_false (by omega)
                  go_wp2_with fail
                  go_meet
                  exact ⟨by rw [hd], rfl⟩
              case rest =>
                obtain ⟨rfl, rfl⟩ := hcut
                by_cases r1 : mid < e ∧ e < b
                · have hd : decide (mid < e ∧ e < b) = true := decide_eq_true r1
                  have HRR := hide (IH.out mid e b d2 _ (by omega) (hz2.trans hz1) (HVP.out _ (hz2.trans hz1) (permIn_trans _ _ _ a b HP1.out (permIn_mono _ _ _ _ a b (Nat.le_refl _) (by omega) (by omega) HP2.out))) S5.out r1.1 r1.2 (by omega) (sorted_same HDD.out.2.1.1 HP2.out (.inr (Nat.le_refl _))) (sorted_same HDD.out.2.1.2.1 HP2.out (.inr (by omega))) (cross_same HDD.out.2.1.2.2 HP2.out (.inr (Nat.le_refl _))))
                  go_wp2_with fail
                  refine (HRR.out).mono ?_
                  rintro e3' w3 ⟨rfl, d3, SA, hz3, hp3, hsr3⟩
                  have S6 : Aside (SW (Value.int .i64) w0 blk off d3 w3) := SA
                  have HP3 : Hid (PermIn mid b d2 d3) := hide hp3
                  have HSR := hide hsr3
                  clear SA hp3 hsr3 S5 HRR
                  go_wp2_with fail
                  go_end0
                  exact ⟨rfl, d3, S6.out, hz3.trans (hz2.trans hz1), permIn_trans _ _ _ a b HP1.out (permIn_trans _ _ _ a b (permIn_mono _ _ _ _ a b (Nat.le_refl _) (by omega) (by omega) HP2.out) (permIn_mono _ _ _ _ a b (by omega) (Nat.le_refl _) (by omega) HP3.out)), halves_end HT.out (by omega) HDD.out.2.2 HP2.out HP3.out HSL.out HSR.out (by omega) (by omega)⟩
                · have hd : decide (mid < e ∧ e < b) = false := decide_eq_false r1
                  have HSR : Hid (SortedIn (stb (ltOf cf)) mid b d2) := hide (by
                    rcases (by omega : mid = e ∨ e = b) with r2 | r2
                    · subst r2; exact sorted_same HDD.out.2.1.2.1 HP2.out (.inr (Nat.le_refl _))
                    · subst r2; exact sorted_same HDD.out.2.1.1 HP2.out (.inr (Nat.le_refl _)))
                  go_wp2_with fail
                  go_end0
                  exact ⟨rfl, d2, S5.out, hz2.trans hz1, permIn_trans _ _ _ a b HP1.out (permIn_mono _ _ _ _ a b (Nat.le_refl _) (by omega) (by omega) HP2.out), halves_end HT.out (by omega) HDD.out.2.2 HP2.out (permIn_refl d2 mid b) HSL.out HSR.out (by omega) (by omega)⟩
end Go.Proofs.YtgjeihgkcmheeaaDoor
