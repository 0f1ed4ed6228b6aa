/- The library's stable sort: the walk of its merge. -/
import Derived.Test.YtgjeihgkcmheeaaDoorStabR
namespace Go.Proofs.YtgjeihgkcmheeaaDoor
open Go.Shelf Go.RowKit Go.Lib Go.Sort Go.Proofs

/-- What a merge leaves. -/
def MergeP (cf : Int → Int → Int) (w0 : World) (blk off a b : Nat) (d : Array Int) (e : Ending) (w' : World) : Prop :=
  e = .returned (.tuple #[]) ∧ ∃ d', SW (Value.int .i64) w0 blk off d' w' ∧ d'.size = d.size ∧ PermIn a b d d' ∧ SortedIn (stb (ltOf cf)) a b d'

set_option maxHeartbeats 16000000 in
set_option maxRecDepth 1000000 in
theorem sym1_any (cf : Int → Int → Int) (hO : SWO (ltOf cf)) (g : Nat) (cb : Array Value) (blk off cap a b : Nat) (d0 d : Array Int) (w0 w : World) (eg : ∀ args w, (callFunc g args).run Tryd.prog w = .ok (.enter g args) w) {V : Int → Prop} (hcmp : CmpV V g cb cf blk off d0.size w0)
    (R : Row1 (Value.int .i64) w0 blk off d0) (hs : d0.size = d.size) (S : SW (Value.int .i64) w0 blk off d w) (hmb : a + 1 < b) (hb : b ≤ d.size) (hV : ∀ t, t < d.size → V d[t]!) (hsz : d.size < 4611686018427387904) (h2 : SortedIn (stb (ltOf cf)) (a + 1) b d) (hc : Cross a (a + 1) b d) :
    Calls Tryd.prog 76 #[.slice (some ⟨blk, off, none⟩) d.size cap, .int .i64 a, .int .i64 ((a + 1 : Nat) : Int), .int .i64 b, .func (.func g) #[] cb] w (MergeP cf w0 blk off a b d) := by
  have S0 : Aside (SW (Value.int .i64) w0 blk off d w) := S
  have HC : Aside _ := hcmp
  have HVV := hide hV
  have H2 := hide h2
  have HX := hide hc
  have HO := hide hO
  have mixed : Tryd.prog.follows .mixedOrders = true := by kernel_rfl
  have hca : ((a + 1 : Nat) : Int) = (a : Int) + 1 := by omega
  rw [hca]
  have hw1 : IntKind.i64.wrap ((a : Int) + 1 - (a : Int)) = 1 := by rw [IntKind.wrap_i64]; omega
  have hq1 : ((a : Int) + 1 - (a : Int) == 1) = true := by rw [beq_iff_eq]; omega
  clear S hV hcmp h2 hc hO hca
  go_enter Tryd.func76, Tryd.ntmps76
  go_wp2
  clear hw1 hq1
  go_loopg [10, 11] (b - a) (fun g1 vi vj wr => ∃ (i j : Nat), vi = .int .i64 i ∧ vj = .int .i64 j ∧ a + 1 ≤ i ∧ i ≤ j ∧ j ≤ b ∧ j - i ≤ g1 ∧ Aside (SW (Value.int .i64) w0 blk off d wr) ∧ Hid ((i = a + 1 ∨ ltOf cf d[i - 1]! d[a]! = true) ∧ (j = b ∨ ltOf cf d[j]! d[a]! = false)))
  case atStart => exact ⟨a + 1, b, by first | rfl | go_num, rfl, Nat.le_refl _, by omega, Nat.le_refl _, by omega, S0, hide ⟨.inl rfl, .inl rfl⟩⟩
  case round =>
    clear S0
    obtain ⟨i, j, rfl, rfl, hai, hij, hjb, hg1, S1, HV⟩ := hrel
    by_cases hlt : i < j
    · have hltz : (i : Int) < (j : Int) := by omega
      obtain ⟨h, hh⟩ : ∃ h : Nat, ((i : Int) + (j : Int)) / 2 = (h : Int) := ⟨(i + j) / 2, by omega⟩
      have hih : i ≤ h := by omega
      have hhj : h < j := by omega
      have hw1 : IntKind.i64.wrap ((i : Int) + (j : Int)) = (i : Int) + (j : Int) := by rw [IntKind.wrap_i64]; omega
      have l1 : (h : Int) < (d.size : Int) := by omega
      have l2 : (a : Int) < (d.size : Int) := by omega
      obtain ⟨x, hx⟩ : ∃ x, x = d[h]! := ⟨_, rfl⟩
      obtain ⟨y, hy⟩ : ∃ x, x = d[a]! := ⟨_, rfl⟩
      have la := S1.out.cl R hs.symm h (by omega)
      have lb := S1.out.cl R hs.symm a (by omega)
      rw [← hx] at la
      rw [← hy] at lb
      have hcm := cmp_at S1.out HC.out hs.symm x y (by rw [hx]; exact HVV.out _ (by omega)) (by rw [hy]; exact HVV.out _ (by omega))
      by_cases hlv : cf x y < 0
      · have hv : decide (cf x y < 0) = true := decide_eq_true hlv
        have HV2 : Hid ((h + 1 = a + 1 ∨ ltOf cf d[h + 1 - 1]! d[a]! = true) ∧ (j = b ∨ ltOf cf d[j]! d[a]! = false)) := hide ⟨.inr (by rw [Nat.add_sub_cancel, ← hx, ← hy]; exact hv), HV.out.2⟩
        clear hx hy
        go_wp2_with fail
        go_quiet_grown (first | (go_at_fn g; refine Calls.grown_of (hcm _ _)))
        have S2 : Aside (SW (Value.int .i64) w0 blk off d (grow (wr.drewN nq) osq)) := S1.out.grown nq osq
        clear la lb hcm S1
        generalize grow (wr.drewN nq) osq = w2 at S2 ⊢
        clear nq osq
        have hw2 : IntKind.i64.wrap ((h : Int) + 1) = (h : Int) + 1 := by rw [IntKind.wrap_i64]; omega
        go_wp2
        go_roundg (j - (h + 1))
        case measure => omega
        case rel => exact ⟨h + 1, j, by go_num, rfl, by omega, by omega, by omega, by omega, S2, HV2⟩
      · have hv : decide (cf x y < 0) = false := decide_eq_false hlv
        have HV2 : Hid ((i = a + 1 ∨ ltOf cf d[i - 1]! d[a]! = true) ∧ (h = b ∨ ltOf cf d[h]! d[a]! = false)) := hide ⟨HV.out.1, .inr (by rw [← hx, ← hy]; exact hv)⟩
        clear hx hy
        go_wp2_with fail
        go_quiet_grown (first | (go_at_fn g; refine Calls.grown_of (hcm _ _)))
        have S2 : Aside (SW (Value.int .i64) w0 blk off d (grow (wr.drewN nq) osq)) := S1.out.grown nq osq
        clear la lb hcm S1
        generalize grow (wr.drewN nq) osq = w2 at S2 ⊢
        clear nq osq
        go_wp2
        go_roundg (h - i)
        case measure => omega
        case rel => exact ⟨i, h, rfl, rfl, by omega, by omega, by omega, by omega, S2, HV2⟩
    · have hltz : ¬ (i : Int) < (j : Int) := by omega
      obtain rfl : i = j := by omega
      have hw1 : IntKind.i64.wrap ((i : Int) - 1) = (i : Int) - 1 := by rw [IntKind.wrap_i64]; omega
      clear hij hg1 hlt
      go_wp2_with fail
      go_loopg [13] (i - a) (fun g2 vk wr2 => ∃ (k : Nat) (dk : Array Int), vk = .int .i64 k ∧ a ≤ k ∧ k + 1 ≤ i ∧ i ≤ k + 1 + g2 ∧ dk.size = d.size ∧ Aside (SW (Value.int .i64) w0 blk off dk wr2) ∧ Hid (∀ x, dk[x]! = rotv d a (a + 1) (k + 1) x) ∧ Hid (PermIn a b d dk))
      case atStart => exact ⟨a, d, rfl, Nat.le_refl _, hai, by omega, rfl, S1, hide (fun x => (rotv_none d (.inr rfl) x (by omega) (by omega)).symm), hide (permIn_refl d a b)⟩
      case round =>
        clear S1
        obtain ⟨k, dk, rfl, hak, hki, hg2, hsk, SK, HR, HP⟩ := hrel
        by_cases hkl : k + 1 < i
        · have hk1 : (k : Int) < (i : Int) - 1 := by omega
          have hw2 : IntKind.i64.wrap ((k : Int) + 1) = (k : Int) + 1 := by rw [IntKind.wrap_i64]; omega
          have p1 : (0 : Int) ≤ (k : Int) + 1 := by omega
          have l1 : (k : Int) + 1 < (d.size : Int) := by omega
          have l2 : (k : Int) < (d.size : Int) := by omega
          obtain ⟨jN, hjN⟩ : ∃ q, q = k + 1 := ⟨_, rfl⟩
          have e1 : ((k : Int) + 1).toNat = jN := by omega
          obtain ⟨x, hx⟩ : ∃ x, x = dk[k]! := ⟨_, rfl⟩
          obtain ⟨y, hy⟩ : ∃ x, x = dk[k + 1]! := ⟨_, rfl⟩
          have S3 : Aside (SW (Value.int .i64) w0 blk off (swp dk k (k + 1)) ((wr.setCell ⟨blk, off + k, none⟩ (.int .i64 y)).setCell ⟨blk, off + jN, none⟩ (.int .i64 x)).drew) := by rw [hjN, hx, hy]; exact SK.out.swapped R k (k + 1) (by omega) (by omega)
          have HR2 := hide (up_step hak hsk (by omega) HR.out)
          have HP2 := hide (permIn_trans _ _ _ a b HP.out (swp_permIn dk a b k (k + 1) hak (by omega) (by omega) (by omega) (by omega)))
          have ca := SK.out.c1 R (by omega) k (by omega)
          have cb2 := SK.out.c1 R (by omega) (k + 1) (by omega)
          have fa := SK.out.f1 R (by omega) k (by omega)
          have fb := SK.out.f1 R (by omega) (k + 1) (by omega)
          obtain ⟨u, cc⟩ := SK.out.c2 R (by omega) k (k + 1) (by omega) (by omega) (Value.int .i64 y)
          rw [← hx] at ca
          rw [← hy, ← hjN] at cb2
          rw [← hjN] at cc fb
          clear SK hx hy hjN HR HP
          go_wp2_with fail
          go_big_region_o
          clear ca cb2 cc fa fb
          generalize ((wr.setCell ⟨blk, off + k, none⟩ (.int .i64 y)).setCell ⟨blk, off + jN, none⟩ (.int .i64 x)).drew = w3 at S3 ⊢
          clear e1
          go_wp2
          go_roundg (i - (k + 2))
          case measure => omega
          case rel => exact ⟨k + 1, swp dk k (k + 1), by go_num, by omega, by omega, by omega, by rw [size_swp]; exact hsk, S3, HR2, HP2⟩
        · have hk1 : ¬ (k : Int) < (i : Int) - 1 := by omega
          obtain rfl : i = k + 1 := by omega
          go_wp2
          go_end0
          exact ⟨rfl, dk, SK.out, hsk, HP.out, merge_left HO.out H2.out HX.out hai hjb HV.out.1 HV.out.2 HR.out⟩
end Go.Proofs.YtgjeihgkcmheeaaDoor
