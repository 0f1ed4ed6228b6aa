/- The library's stable sort: the walk of its merge where the right row is one. -/
import Derived.Test.YtgjeihgkcmheeaaDoorStabM
namespace Go.Proofs.YtgjeihgkcmheeaaDoor
open Go.Shelf Go.RowKit Go.Lib Go.Sort Go.Proofs

set_option maxHeartbeats 16000000 in
set_option maxRecDepth 1000000 in
theorem sym2_any (cf : Int → Int → Int) (hO : SWO (ltOf cf)) (g : Nat) (cb : Array Value) (blk off cap a m : Nat) (d0 d : Array Int) (w0 w : World) (eg : ∀ args w, (callFunc g args).run Tryd.prog w = .ok (.enter g args) w) {V : Int → Prop} (hcmp : CmpV V g cb cf blk off d0.size w0)
    (R : Row1 (Value.int .i64) w0 blk off d0) (hs : d0.size = d.size) (S : SW (Value.int .i64) w0 blk off d w) (ham : a + 1 < m) (hb : m + 1 ≤ d.size) (hV : ∀ t, t < d.size → V d[t]!) (hsz : d.size < 4611686018427387904) (h1 : SortedIn (stb (ltOf cf)) a m d) (hc : Cross a (m) (m + 1) d) :
    Calls Tryd.prog 76 #[.slice (some ⟨blk, off, none⟩) d.size cap, .int .i64 a, .int .i64 m, .int .i64 ((m + 1 : Nat) : Int), .func (.func g) #[] cb] w (MergeP cf w0 blk off a (m + 1) d) := by
  have S0 : Aside (SW (Value.int .i64) w0 blk off d w) := S
  have HC : Aside _ := hcmp
  have HVV := hide hV
  have H1 := hide h1
  have HX := hide hc
  have HO := hide hO
  have mixed : Tryd.prog.follows .mixedOrders = true := by kernel_rfl
  have hca : ((m + 1 : Nat) : Int) = (m : Int) + 1 := by omega
  rw [hca]
  have hw0 : IntKind.i64.wrap ((m : Int) - (a : Int)) = (m : Int) - (a : Int) := by rw [IntKind.wrap_i64]; omega
  have hq0 : ((m : Int) - (a : Int) == 1) = false := by rw [beq_eq_false_iff_ne]; omega
  have hw1 : IntKind.i64.wrap ((m : Int) + 1 - (m : Int)) = 1 := by rw [IntKind.wrap_i64]; omega
  have hq1 : ((m : Int) + 1 - (m : Int) == 1) = true := by rw [beq_iff_eq]; omega
  clear S hV hcmp h1 hc hO hca
  go_enter Tryd.func76, Tryd.ntmps76
  go_wp2
  clear hw1 hq1 hw0 hq0
  go_loopg [14, 15] (m - a) (fun g1 vi vj wr => ∃ (i j : Nat), vi = .int .i64 i ∧ vj = .int .i64 j ∧ a ≤ i ∧ i ≤ j ∧ j ≤ m ∧ j - i ≤ g1 ∧ Aside (SW (Value.int .i64) w0 blk off d wr) ∧ Hid ((i = a ∨ ltOf cf d[m]! d[i - 1]! = false) ∧ (j = m ∨ ltOf cf d[m]! d[j]! = true)))
  case atStart => exact ⟨a, m, rfl, rfl, Nat.le_refl _, by omega, Nat.le_refl _, by omega, S0, hide ⟨.inl rfl, .inl rfl⟩⟩
  case round =>
    clear S0
    obtain ⟨i, j, rfl, rfl, hai, hij, hjm, hg1, S1, HV⟩ := hrel
    by_cases hlt : i < j
    · have hltz : (i : Int) < (j : Int) := by omega
      obtain ⟨h, hh⟩ : ∃ h : Nat, ((i : Int) + (j : Int)) / 2 = (h : Int) := ⟨(i + j) / 2, by omega⟩
      have hih : i ≤ h := by omega
      have hhj : h < j := by omega
      have hw1 : IntKind.i64.wrap ((i : Int) + (j : Int)) = (i : Int) + (j : Int) := by rw [IntKind.wrap_i64]; omega
      have l1 : (h : Int) < (d.size : Int) := by omega
      have l2 : (m : Int) < (d.size : Int) := by omega
      obtain ⟨x, hx⟩ : ∃ x, x = d[m]! := ⟨_, rfl⟩
      obtain ⟨y, hy⟩ : ∃ x, x = d[h]! := ⟨_, rfl⟩
      have la := S1.out.cl R hs.symm m (by omega)
      have lb := S1.out.cl R hs.symm h (by omega)
      rw [← hx] at la
      rw [← hy] at lb
      have hcm := cmp_at S1.out HC.out hs.symm x y (by rw [hx]; exact HVV.out _ (by omega)) (by rw [hy]; exact HVV.out _ (by omega))
      by_cases hlv : cf x y < 0
      · have hv : decide (cf x y < 0) = true := decide_eq_true hlv
        have HV2 : Hid ((i = a ∨ ltOf cf d[m]! d[i - 1]! = false) ∧ (h = m ∨ ltOf cf d[m]! d[h]! = true)) := hide ⟨HV.out.1, .inr (by rw [← hx, ← hy]; exact hv)⟩
        clear hx hy
        go_wp2_with fail
        go_quiet_grown (first | (go_at_fn g; refine Calls.grown_of (hcm _ _)))
        have S2 : Aside (SW (Value.int .i64) w0 blk off d (grow (wr.drewN nq) osq)) := S1.out.grown nq osq
        clear la lb hcm S1
        generalize grow (wr.drewN nq) osq = w2 at S2 ⊢
        clear nq osq
        go_wp2
        go_roundg (h - i)
        case measure => omega
        case rel => exact ⟨i, h, rfl, rfl, by omega, by omega, by omega, by omega, S2, HV2⟩
      · have hv : decide (cf x y < 0) = false := decide_eq_false hlv
        have HV2 : Hid ((h + 1 = a ∨ ltOf cf d[m]! d[h + 1 - 1]! = false) ∧ (j = m ∨ ltOf cf d[m]! d[j]! = true)) := hide ⟨.inr (by rw [Nat.add_sub_cancel, ← hx, ← hy]; exact hv), HV.out.2⟩
        clear hx hy
        go_wp2_with fail
        go_quiet_grown (first | (go_at_fn g; refine Calls.grown_of (hcm _ _)))
        have S2 : Aside (SW (Value.int .i64) w0 blk off d (grow (wr.drewN nq) osq)) := S1.out.grown nq osq
        clear la lb hcm S1
        generalize grow (wr.drewN nq) osq = w2 at S2 ⊢
        clear nq osq
        have hw2 : IntKind.i64.wrap ((h : Int) + 1) = (h : Int) + 1 := by rw [IntKind.wrap_i64]; omega
        go_wp2
        go_roundg (j - (h + 1))
        case measure => omega
        case rel => exact ⟨h + 1, j, by go_num, rfl, by omega, by omega, by omega, by omega, S2, HV2⟩
    · have hltz : ¬ (i : Int) < (j : Int) := by omega
      obtain rfl : i = j := by omega
      clear hij hg1 hlt
      go_wp2_with fail
      go_loopg [17] (m - i) (fun g2 vk wr2 => ∃ (k : Nat) (dk : Array Int), vk = .int .i64 k ∧ i ≤ k ∧ k ≤ m ∧ k ≤ i + g2 ∧ dk.size = d.size ∧ Aside (SW (Value.int .i64) w0 blk off dk wr2) ∧ Hid (∀ x, dk[x]! = rotv d k m (m + 1) x) ∧ Hid (PermIn a (m + 1) d dk))
      case atStart => exact ⟨m, d, rfl, hjm, Nat.le_refl _, by omega, rfl, S1, hide (fun x => (rotv_none d (.inl rfl) x (by omega) (by omega)).symm), hide (permIn_refl d a _)⟩
      case round =>
        clear S1
        obtain ⟨k, dk, rfl, hik, hkm, hg2, hsk, SK, HR, HP⟩ := hrel
        by_cases hkl : i < k
        · have hk1 : (i : Int) < (k : Int) := by omega
          have hk2 : decide ((k : Int) > (i : Int)) = true := decide_eq_true (by omega)
          have hw2 : IntKind.i64.wrap ((k : Int) - 1) = (k : Int) - 1 := by rw [IntKind.wrap_i64]; omega
          have p1 : (0 : Int) ≤ (k : Int) - 1 := by omega
          have p3 : (1 : Int) ≤ (k : Int) := by omega
          have l1 : (k : Int) - 1 < (d.size : Int) := by omega
          have l2 : (k : Int) < (d.size : Int) := by omega
          obtain ⟨jN, hjN⟩ : ∃ q, q = k - 1 := ⟨_, rfl⟩
          have e1 : ((k : Int) - 1).toNat = jN := by omega
          obtain ⟨x, hx⟩ : ∃ x, x = dk[k]! := ⟨_, rfl⟩
          obtain ⟨y, hy⟩ : ∃ x, x = dk[k - 1]! := ⟨_, rfl⟩
          have S3 : Aside (SW (Value.int .i64) w0 blk off (swp dk k (k - 1)) ((wr.setCell ⟨blk, off + k, none⟩ (.int .i64 y)).setCell ⟨blk, off + jN, none⟩ (.int .i64 x)).drew) := by rw [hjN, hx, hy]; exact SK.out.swapped R k (k - 1) (by omega) (by omega)
          have HR2 := hide (down_step (by omega) hkm hsk (by omega) HR.out)
          have HP2 := hide (permIn_trans _ _ _ a (m + 1) HP.out (swp_permIn dk a (m + 1) k (k - 1) (by omega) (by omega) (by omega) (by omega) (by omega)))
          have ca := SK.out.c1 R (by omega) k (by omega)
          have cb2 := SK.out.c1 R (by omega) (k - 1) (by omega)
          have fa := SK.out.f1 R (by omega) k (by omega)
          have fb := SK.out.f1 R (by omega) (k - 1) (by omega)
          obtain ⟨u, cc⟩ := SK.out.c2 R (by omega) k (k - 1) (by omega) (by omega) (Value.int .i64 y)
          rw [← hx] at ca
          rw [← hy, ← hjN] at cb2
          rw [← hjN] at cc fb
          have hkc : ((k - 1 : Nat) : Int) = (k : Int) - 1 := by omega
          have HKC := hide hkc
          clear SK hx hy hjN HR HP hkc
          go_wp2_with fail
          go_big_region_o
          clear ca cb2 cc fa fb
          generalize ((wr.setCell ⟨blk, off + k, none⟩ (.int .i64 y)).setCell ⟨blk, off + jN, none⟩ (.int .i64 x)).drew = w3 at S3 ⊢
          clear e1
          go_wp2
          go_roundg (k - 1 - i)
          case measure => omega
          case rel => exact ⟨k - 1, swp dk k (k - 1), by rw [HKC.out], by omega, by omega, by omega, by rw [size_swp]; exact hsk, S3, HR2, HP2⟩
        · have hk1 : ¬ (i : Int) < (k : Int) := by omega
          have hk2 : decide ((k : Int) > (i : Int)) = false := decide_eq_false (by omega)
          obtain rfl : i = k := by omega
          go_wp2
          go_end0
          exact ⟨rfl, dk, SK.out, hsk, HP.out, merge_right HO.out H1.out HX.out hai hjm HV.out.1 HV.out.2 HR.out⟩
end Go.Proofs.YtgjeihgkcmheeaaDoor
