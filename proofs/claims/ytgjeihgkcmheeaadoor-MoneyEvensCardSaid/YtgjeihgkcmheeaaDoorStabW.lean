/- The library's stable sort: the walks of its insertion sort, its exchanges, its rotation. -/
import Derived.Test.YtgjeihgkcmheeaaDoorRows
import Derived.Test.YtgjeihgkcmheeaaDoorBase
import Derived.Outline
import Derived.BigQuiet
import Derived.BigRegion
import Derived.Test.YtgjeihgkcmheeaaDoorStabP
import Derived.Shelf.SlSortCmp.Kit1
import Derived.Sort.WalkA
import Derived.Sort.WalkB2
import Derived.Sort.WalkB12
import Derived.Deep.LoopGhost
namespace Go.Proofs.YtgjeihgkcmheeaaDoor
open Go.Shelf Go.RowKit Go.Lib Go.Sort Go.Proofs

set_option maxHeartbeats 16000000 in
set_option maxRecDepth 1000000 in
theorem swapRange_any (g : Nat) (cb : Array Value) (blk off cap a b n : Nat) (d0 d : Array Int) (w0 w : World)
    (R : Row1 (Value.int .i64) w0 blk off d0) (hs : d0.size = d.size) (S : SW (Value.int .i64) w0 blk off d w) (hab : a + n ≤ b) (hb : b + n ≤ d.size) (hsz : d.size < 4611686018427387904) :
    Calls Tryd.prog 103 #[.slice (some ⟨blk, off, none⟩) d.size cap, .int .i64 a, .int .i64 b, .int .i64 n, .func (.func g) #[] cb] w fun e w' => e = .returned (.tuple #[]) ∧ ∃ d', SW (Value.int .i64) w0 blk off d' w' ∧ d'.size = d.size ∧ (∀ x, d'[x]! = swv d a b n x) ∧ PermIn a (b + n) d d' := by
  have S0 : Aside (SW (Value.int .i64) w0 blk off d w) := S
  clear S
  go_enter Tryd.func103, Tryd.ntmps103
  go_wp2
  go_loopg [10] n (fun g1 vi wr => ∃ (i : Nat) (dk : Array Int), vi = .int .i64 i ∧ i ≤ n ∧ n ≤ i + g1 ∧ dk.size = d.size ∧ Aside (SW (Value.int .i64) w0 blk off dk wr) ∧ Hid (∀ x, dk[x]! = swv d a b i x) ∧ Hid (PermIn a (b + n) d dk))
  case atStart => exact ⟨0, d, by go_num, by omega, by omega, rfl, S0, hide (fun x => (swv_zero d a b x).symm), hide (permIn_refl d a _)⟩
  case round =>
    clear S0
    obtain ⟨i, dk, rfl, hin, hg1, hsk, S1, HV, HP⟩ := hrel
    by_cases hlt : i < n
    · have hltz : (i : Int) < (n : Int) := by omega
      have hw1 : IntKind.i64.wrap ((a : Int) + (i : Int)) = (a : Int) + (i : Int) := by rw [IntKind.wrap_i64]; omega
      have hw2 : IntKind.i64.wrap ((b : Int) + (i : Int)) = (b : Int) + (i : Int) := by rw [IntKind.wrap_i64]; omega
      have p1 : (0 : Int) ≤ (a : Int) + (i : Int) := by omega
      have p2 : (0 : Int) ≤ (b : Int) + (i : Int) := by omega
      have l1 : (a : Int) + (i : Int) < (d.size : Int) := by omega
      have l2 : (b : Int) + (i : Int) < (d.size : Int) := by omega
      obtain ⟨iN, hiN⟩ : ∃ q, q = a + i := ⟨_, rfl⟩
      obtain ⟨jN, hjN⟩ : ∃ q, q = b + i := ⟨_, rfl⟩
      have e1 : ((a : Int) + (i : Int)).toNat = iN := by omega
      have e2 : ((b : Int) + (i : Int)).toNat = jN := by omega
      obtain ⟨x, hx⟩ : ∃ x, x = dk[a + i]! := ⟨_, rfl⟩
      obtain ⟨y, hy⟩ : ∃ x, x = dk[b + i]! := ⟨_, rfl⟩
      have S3 : Aside (SW (Value.int .i64) w0 blk off (swp dk (a + i) (b + i)) ((wr.setCell ⟨blk, off + iN, none⟩ (.int .i64 y)).setCell ⟨blk, off + jN, none⟩ (.int .i64 x)).drew) := by rw [hiN, hjN, hx, hy]; exact S1.out.swapped R (a + i) (b + i) (by omega) (by omega)
      have HV2 := hide (swv_step hab hlt hb hsk HV.out)
      have HP2 := hide (permIn_trans _ _ _ a (b + n) HP.out (swp_permIn dk a (b + n) (a + i) (b + i) (by omega) (by omega) (by omega) (by omega) (by omega)))
      have ca := S1.out.c1 R (by omega) (a + i) (by omega)
      have cb2 := S1.out.c1 R (by omega) (b + i) (by omega)
      have fa := S1.out.f1 R (by omega) (a + i) (by omega)
      have fb := S1.out.f1 R (by omega) (b + i) (by omega)
      obtain ⟨u, cc⟩ := S1.out.c2 R (by omega) (a + i) (b + i) (by omega) (by omega) (Value.int .i64 y)
      rw [← hx, ← hiN] at ca
      rw [← hy, ← hjN] at cb2
      rw [← hiN, ← hjN] at cc
      rw [← hiN] at fa
      rw [← hjN] at fb
      clear S1 hx hy hiN hjN HV HP
      go_wp2_with fail
      have mixed : Tryd.prog.follows .mixedOrders = true := by kernel_rfl
      go_big_region_o
      clear ca cb2 cc fa fb
      generalize ((wr.setCell ⟨blk, off + iN, none⟩ (.int .i64 y)).setCell ⟨blk, off + jN, none⟩ (.int .i64 x)).drew = w3 at S3 ⊢
      clear e1 e2 hw1 hw2
      go_wp2
      go_roundg (n - (i + 1))
      case measure => omega
      case rel => exact ⟨i + 1, swp dk (a + i) (b + i), by go_num, by omega, by omega, by rw [size_swp]; exact hsk, S3, HV2, HP2⟩
    · have hltz : ¬ (i : Int) < (n : Int) := by omega
      obtain rfl : i = n := by omega
      go_wp2
      go_end0
      exact ⟨rfl, dk, S1.out, hsk, HV.out, HP.out⟩

/-- What is asked of the comparison: of values that may come (V) it hands back cf; it may draw, and lay blocks. -/
def CmpV (V : Int → Prop) (g : Nat) (cb : Array Value) (cf : Int → Int → Int) (blk off size : Nat) (w : World) : Prop :=
  ∀ (m : Nat) (os : Array Obj) (dk : Array Int), dk.size = size → ∀ x y : Int, V x → V y →
    Calls Tryd.prog g (#[.int .i64 x, .int .i64 y] ++ cb) (sortWorld (Value.int .i64) w blk off m dk os) fun e w' => e = .returned (.int .i64 (cf x y)) ∧ ∃ q os', w' = grow ((sortWorld (Value.int .i64) w blk off m dk os).drewN q) os'
theorem cmp_at {V : Int → Prop} {g : Nat} {cb : Array Value} {cf : Int → Int → Int} {blk off size : Nat} {w0 W : World} {dk : Array Int} (h : SW (Value.int .i64) w0 blk off dk W) (hC : CmpV V g cb cf blk off size w0) (hs : dk.size = size) (x y : Int) (hx : V x) (hy : V y) (n : Nat) (os : Array Obj) :
    Calls Tryd.prog g (#[.int .i64 x, .int .i64 y] ++ cb) (grow (W.drewN n) os) fun e w' => e = .returned (.int .i64 (cf x y)) ∧ ∃ q os', w' = grow ((grow (W.drewN n) os).drewN q) os' := by
  obtain ⟨m, os0, hw⟩ := h.grown n os
  rw [hw]
  exact hC m os0 dk hs x y hx hy
theorem swp_all {V : Int → Prop} {d : Array Int} {n i j : Nat} (h : ∀ t, t < n → V d[t]!) (hn : n ≤ d.size) (hi : i < n) (hj : j < n) : ∀ t, t < n → V (swp d i j)[t]! := fun t ht => by
  by_cases h1 : t = j
  · subst h1; rw [swp_right _ _ _ (by omega)]; exact h i hi
  · by_cases h2 : t = i
    · subst h2; rw [swp_left _ _ _ (by omega) h1]; exact h j hj
    · rw [swp_other _ _ _ _ h2 h1]; exact h t ht

/-- The order that a comparison gives. -/
abbrev ltC (cf : Int → Int → Int) : Int → Int → Bool := ltOf cf

set_option maxHeartbeats 16000000 in
set_option maxRecDepth 1000000 in
theorem insSort_any (cf : Int → Int → Int) (g : Nat) (cb : Array Value) (blk off cap a b : Nat) (d0 d : Array Int) (w0 w : World) (eg : ∀ args w, (callFunc g args).run Tryd.prog w = .ok (.enter g args) w) {V : Int → Prop} (hcmp : CmpV V g cb cf blk off d0.size w0)
    (R : Row1 (Value.int .i64) w0 blk off d0) (hs : d0.size = d.size) (S : SW (Value.int .i64) w0 blk off d w) (hab : a ≤ b) (hb : b ≤ d.size) (hV : ∀ t, t < d.size → V d[t]!) (hsz : d.size < 4611686018427387904) :
    Calls Tryd.prog 75 #[.slice (some ⟨blk, off, none⟩) d.size cap, .int .i64 a, .int .i64 b, .func (.func g) #[] cb] w fun e w' => e = .returned (.tuple #[]) ∧ SW (Value.int .i64) w0 blk off (insertionSort (ltOf cf) d a b) w' := by
  have S0 : Aside (SW (Value.int .i64) w0 blk off d w) := S
  have HC : Aside _ := hcmp
  have HV0 := hide hV
  have mixed : Tryd.prog.follows .mixedOrders = true := by kernel_rfl
  have hwa : IntKind.i64.wrap ((a : Int) + 1) = (a : Int) + 1 := by rw [IntKind.wrap_i64]; omega
  clear S hcmp hV
  go_enter Tryd.func75, Tryd.ntmps75
  go_wp2
  go_loopg [8] (b - a) (fun g1 vi wr => ∃ (i : Nat) (dk : Array Int), vi = .int .i64 i ∧ a < i ∧ i ≤ b + 1 ∧ b + 1 - i ≤ g1 + 1 ∧ dk.size = d.size ∧ Aside (SW (Value.int .i64) w0 blk off dk wr) ∧ Hid (∀ t, t < d.size → V dk[t]!) ∧ Hid (insOuter (ltOf cf) a b i dk = insOuter (ltOf cf) a b (a + 1) d))
  case atStart => exact ⟨a + 1, d, by go_num, by omega, by omega, by omega, rfl, S0, HV0, hide rfl⟩
  case round =>
    clear S0 hwa
    obtain ⟨i, dk, rfl, hai, hib, hg1, hsk, S1, HV1, HO⟩ := hrel
    by_cases hlt : i < b
    · have hltz : (i : Int) < (b : Int) := by omega
      go_wp2
      go_loopg [9] i (fun g2 vj wr2 => ∃ (j : Nat) (dj : Array Int), vj = .int .i64 j ∧ a ≤ j ∧ j ≤ i ∧ j ≤ g2 ∧ dj.size = d.size ∧ Aside (SW (Value.int .i64) w0 blk off dj wr2) ∧ Hid (∀ t, t < d.size → V dj[t]!) ∧ Hid (insInner (ltOf cf) a j dj = insInner (ltOf cf) a i dk))
      case atStart => exact ⟨i, dk, rfl, by omega, Nat.le_refl _, Nat.le_refl _, hsk, S1, HV1, hide rfl⟩
      case round =>
        clear S1
        obtain ⟨j, dj, rfl, haj, hji, hg2, hsj, SJ, HVJ, HI⟩ := hrel
        have OUT : Hid ((j ≤ a ∨ (ltOf cf) dj[j]! dj[j - 1]! = false) → insOuter (ltOf cf) a b (i + 1) dj = insOuter (ltOf cf) a b (a + 1) d) := hide (fun hs => by
          rw [← HO.out, insOuter_go _ _ _ _ _ hlt, ← HI.out, insInner_stop _ _ _ _ hs])
        by_cases hja : a < j
        · have hjaz : (a : Int) < (j : Int) := by omega
          obtain ⟨jp, rfl⟩ : ∃ q, j = q + 1 := ⟨j - 1, by omega⟩
          have hcj : ((jp + 1 : Nat) : Int) = (jp : Int) + 1 := by omega
          have hjad : decide ((jp : Int) + 1 > (a : Int)) = true := decide_eq_true (by omega)
          have hjaz' : (a : Int) < (jp : Int) + 1 := by omega
          obtain ⟨iN, hiN⟩ : ∃ q, q = jp + 1 := ⟨_, rfl⟩
          obtain ⟨jN, hjN⟩ : ∃ q, q = jp := ⟨_, rfl⟩
          have e1 : ((jp : Int) + 1).toNat = iN := by omega
          have e2 : ((jp : Int)).toNat = jN := by omega
          have p1 : (0 : Int) ≤ (jp : Int) + 1 := by omega
          have p2 : (0 : Int) ≤ (jp : Int) := by omega
          have l1 : (jp : Int) + 1 < (d.size : Int) := by omega
          have l2 : (jp : Int) < (d.size : Int) := by omega
          have hw1 : IntKind.i64.wrap ((jp : Int) + 1) = (jp : Int) + 1 := by rw [IntKind.wrap_i64]; omega
          have hw2 : IntKind.i64.wrap (jp : Int) = (jp : Int) := by rw [IntKind.wrap_i64]; omega
          obtain ⟨x, hx⟩ : ∃ x, x = dj[jp + 1]! := ⟨_, rfl⟩
          obtain ⟨y, hy⟩ : ∃ x, x = dj[jp]! := ⟨_, rfl⟩
          have la := SJ.out.cl R (by omega) (jp + 1) (by omega)
          have lb := SJ.out.cl R (by omega) jp (by omega)
          rw [← hx, ← hiN] at la
          rw [← hy, ← hjN] at lb
          have hc := cmp_at SJ.out HC.out (by omega) x y (by rw [hx]; exact HVJ.out _ (by omega)) (by rw [hy]; exact HVJ.out _ (by omega))
          have HVS := hide (swp_all (i := jp + 1) (j := jp) HVJ.out (by omega) (by omega) (by omega))
          rw [hcj] at hjaz
          simp only [Nat.add_sub_cancel] at OUT
          by_cases hlv : cf x y < 0
          · have hv : decide (cf x y < 0) = true := decide_eq_true hlv
            have HLV : Hid ((ltOf cf) dj[jp + 1]! dj[jp + 1 - 1]! = true) := hide (by rw [Nat.add_sub_cancel, ← hx, ← hy]; exact hv)
            have HX : Hid (x = dj[jp + 1]! ∧ y = dj[jp]! ∧ iN = jp + 1 ∧ jN = jp) := hide ⟨hx, hy, hiN, hjN⟩
            clear hx hy hiN hjN
            go_wp2_with fail
            go_quiet_grown (first | (go_at_fn g; refine Calls.grown_of (hc _ _)))
            have S2 : Aside (SW (Value.int .i64) w0 blk off dj (grow (wr.drewN nq) osq)) := SJ.out.grown nq osq
            clear la lb hc SJ
            generalize grow (wr.drewN nq) osq = w2 at S2 ⊢
            clear nq osq
            obtain ⟨hx, hy, hiN, hjN⟩ := HX.out
            have S3 : Aside (SW (Value.int .i64) w0 blk off (swp dj (jp + 1) jp) ((w2.setCell ⟨blk, off + iN, none⟩ (.int .i64 y)).setCell ⟨blk, off + jN, none⟩ (.int .i64 x)).drew) := by rw [hiN, hjN, hx, hy]; exact S2.out.swapped R (jp + 1) jp (by omega) (by omega)
            have ca := S2.out.c1 R (by omega) (jp + 1) (by omega)
            have cb2 := S2.out.c1 R (by omega) jp (by omega)
            have fa := S2.out.f1 R (by omega) (jp + 1) (by omega)
            have fb := S2.out.f1 R (by omega) jp (by omega)
            obtain ⟨u, cc⟩ := S2.out.c2 R (by omega) (jp + 1) jp (by omega) (by omega) (Value.int .i64 y)
            rw [← hx, ← hiN] at ca
            rw [← hy, ← hjN] at cb2
            rw [← hiN] at fa
            have h7 : off + jp = off + jN := by omega
            rw [h7] at fb
            rw [← hiN, h7] at cc
            clear S2 hx hy hiN hjN h7 hlv hv
            go_wp2_with fail
            go_big_region_o
            clear ca cb2 cc fa fb
            generalize ((w2.setCell ⟨blk, off + iN, none⟩ (.int .i64 y)).setCell ⟨blk, off + jN, none⟩ (.int .i64 x)).drew = w3 at S3 ⊢
            clear e1 e2
            go_wp2
            go_roundg jp
            case measure => omega
            case rel => exact ⟨jp, swp dj (jp + 1) jp, by first | rfl | go_num | (congr 1; omega), by omega, by omega, Nat.le_refl _, by rw [size_swp]; exact hsj, S3, HVS, hide (by rw [← HI.out, insInner_go (ltOf cf) a (jp + 1) dj hja HLV.out]; rfl)⟩
          · have hv : decide (cf x y < 0) = false := decide_eq_false hlv
            have HLV : Hid ((ltOf cf) dj[jp + 1]! dj[jp]! = false) := hide (by rw [← hx, ← hy]; exact hv)
            clear hx hy hiN hjN
            go_wp2_with fail
            go_quiet_grown (first | (go_at_fn g; refine Calls.grown_of (hc _ _)))
            have S2 : Aside (SW (Value.int .i64) w0 blk off dj (grow (wr.drewN nq) osq)) := SJ.out.grown nq osq
            clear la lb hc SJ
            generalize grow (wr.drewN nq) osq = w2 at S2 ⊢
            clear nq osq e1 e2
            have hwi : IntKind.i64.wrap ((i : Int) + 1) = (i : Int) + 1 := by rw [IntKind.wrap_i64]; omega
            go_wp2
            go_roundg (b - (i + 1))
            case measure => omega
            case rel => exact ⟨i + 1, dj, by go_num, by omega, by omega, by omega, hsj, S2, HVJ, hide (OUT.out (.inr HLV.out))⟩
        · have hjaz : decide ((j : Int) > (a : Int)) = false := decide_eq_false (by omega)
          have hjaz' : ¬ (a : Int) < (j : Int) := by omega
          go_wp2_with fail
          go_big_region_o
          have S2 : Aside (SW (Value.int .i64) w0 blk off dj wr.drew) := SJ.out.drew
          clear SJ
          generalize wr.drew = w2 at S2 ⊢
          have hwi : IntKind.i64.wrap ((i : Int) + 1) = (i : Int) + 1 := by rw [IntKind.wrap_i64]; omega
          go_wp2
          go_roundg (b - (i + 1))
          case measure => omega
          case rel => exact ⟨i + 1, dj, by go_num, by omega, by omega, by omega, hsj, S2, HVJ, hide (OUT.out (.inl (by omega)))⟩
    · have hltz : ¬ (i : Int) < (b : Int) := by omega
      go_wp2
      go_end0
      exact ⟨rfl, by unfold insertionSort; rw [← HO.out, insOuter_stop _ _ _ _ _ hlt]; exact S1.out⟩
end Go.Proofs.YtgjeihgkcmheeaaDoor
