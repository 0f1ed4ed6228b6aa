/- The walks of goods.Next, goods.Subsets: all subsets of the first n goods, by number. -/
import Derived.Test.YtkiebjgpghajbaaDoorSeqO
namespace Go.Proofs.YtkiebjgpghajbaaDoor
open Go.RowKit Go.Shelf

attribute [local go_sem] Oper.semAt_some

theorem next_num {n k : Nat} (hn : n ≤ 31) (h : k + 1 < 2 ^ n) : (k + 4294967296 - (2 ^ n - 1)) % 4294967296 &&& (2 ^ n - 1) = k + 1 := by
  have h2 : 2 ^ n ≤ 2 ^ 31 := Nat.pow_le_pow_right (by omega) hn
  have h3 : 2 ^ 32 = 2 ^ n * 2 ^ (32 - n) := by rw [← Nat.pow_add]; congr 1; omega
  have h4 : 1 ≤ 2 ^ (32 - n) := Nat.one_le_two_pow
  obtain ⟨q, hq⟩ : ∃ q, 2 ^ (32 - n) = q + 1 := ⟨2 ^ (32 - n) - 1, by omega⟩
  rw [hq, Nat.mul_succ] at h3
  rw [Nat.and_two_pow_sub_one_eq_mod]
  generalize 2 ^ n = t at *
  have h5 : (k + 4294967296 - (t - 1)) % 4294967296 = t * q + (k + 1) := by
    have e : k + 4294967296 - (t - 1) = t * q + (k + 1) := by
      have : (4294967296 : Nat) = t * q + t := h3
      omega
    rw [e, Nat.mod_eq_of_lt]
    have : (4294967296 : Nat) = t * q + t := h3
    omega
  rw [h5, Nat.mul_add_mod, Nat.mod_eq_of_lt h]

def NextR (n k : Nat) : Value := if k + 1 < 2 ^ n then .tuple #[.int .u32 ((k + 1 : Nat) : Int), .bool true] else .tuple #[.int .u32 0, .bool false]
set_option maxRecDepth 100000 in
set_option maxHeartbeats 2000000 in
theorem next_any {n k : Nat} (hn : n ≤ 31) (hk : k < 2 ^ n) (w : World) : Calls Tryd.prog 62 #[.int .u32 (k : Int), .int .u32 ((2 ^ n - 1 : Nat) : Int)] w (SamePost (NextR n k) w) := by
  have h31 : 2 ^ n ≤ 2147483648 := Nat.le_trans (Nat.pow_le_pow_right (n := 2) (by omega) hn) (Nat.le_of_eq rfl)
  have hw := within_all k n (by omega) (by omega)
  rw [decide_eq_true hk] at hw
  unfold allG at hw
  have HW := hide (within_any k (2 ^ n - 1) (by omega) (by omega) w)
  rw [hw] at HW
  unfold NextR
  by_cases hl : k + 1 < 2 ^ n
  · rw [if_pos hl]
    have hnum := next_num hn hl
    have hsub : IntKind.u32.wrap ((k : Int) - ((2 ^ n - 1 : Nat) : Int)) = (((k + 4294967296 - (2 ^ n - 1)) % 4294967296 : Nat) : Int) := by
      simp only [IntKind.wrap_u32]
      generalize 2 ^ n = t at *
      omega
    have hand := u32_and_nat ((k + 4294967296 - (2 ^ n - 1)) % 4294967296) (2 ^ n - 1) (Nat.mod_lt _ (by omega)) (by omega)
    rw [hnum] at hand
    have hne : ((k : Int) == ((2 ^ n - 1 : Nat) : Int)) = false := by
      rw [beq_eq_false_iff_ne]
      omega
    generalize (k + 4294967296 - (2 ^ n - 1)) % 4294967296 = t1 at *
    generalize 2 ^ n - 1 = t at *
    go_enter Tryd.func62, Tryd.ntmps62
    go_wp2_with fail
    refine (HW.out).mono ?_
    rintro e w1 ⟨rfl, rfl⟩
    go_wp2_with fail
    refine bodyPost_ret (v := .tuple #[.int .u32 ((k + 1 : Nat) : Int), .bool true]) (by simp [results, Tryd.results62, go_sem]) rfl ?_
    exact ⟨rfl, rfl⟩
  · rw [if_neg hl]
    have hq : ((k : Int) == ((2 ^ n - 1 : Nat) : Int)) = true := by
      rw [beq_iff_eq]
      omega
    generalize 2 ^ n - 1 = t at *
    go_enter Tryd.func62, Tryd.ntmps62
    go_wp2_with fail
    refine (HW.out).mono ?_
    rintro e w1 ⟨rfl, rfl⟩
    go_wp2_with fail
    refine bodyPost_ret (v := .tuple #[.int .u32 0, .bool false]) (by simp [results, Tryd.results62, go_sem]) rfl ?_
    exact ⟨rfl, rfl⟩

set_option maxHeartbeats 1000000 in
theorem subsets_any (x : Nat) (w : World) : Calls Tryd.prog 47 #[.int .u32 (x : Int)] w fun e w' => e = .returned (.func (.func 61) #[] #[.pointer (some ⟨w.heap.size, 0, none⟩)]) ∧ w' = w.alloc (.cells #[.int .u32 (x : Int)] 50) := by
  go_enter Tryd.func47, Tryd.ntmps47
  go_wp2
  go_ret
  exact ⟨rfl, rfl⟩

def encG (x : Nat) : Array Value := #[.int .u32 (x : Int)]
set_option maxRecDepth 100000 in
set_option maxHeartbeats 2000000 in
theorem subs_seq {n b : Nat} (hn : n ≤ 31) {p : Nat → Prop} {W : World} (hb : W.heap[b]? = some (.cells #[.int .u32 ((2 ^ n - 1 : Nat) : Int)] 50 (0, 0))) (hpb : ¬ p b) :
    SeqO p Tryd.prog 61 #[.pointer (some ⟨b, 0, none⟩)] encG (fun xs => xs = List.range (2 ^ n)) (fun pre => pre <+: List.range (2 ^ n)) (fun pre x => x = pre.length ∧ x < 2 ^ n) W := by
  intro l J Jx hJ hJx hY h0
  have HB : Hid (∀ W', OutP p W W' → W'.cell? ⟨b, 0, none⟩ = some (.int .u32 ((2 ^ n - 1 : Nat) : Int))) := hide (fun W' h => cell_of_row W' b 0 _ 50 (0, 0) ((h.block b (lt_of_block hb) hpb).trans hb))
  have HY := hide hY
  have HNX : Hid (∀ k : Nat, k < 2 ^ n → ∀ w, Calls Tryd.prog 62 #[.int .u32 (k : Int), .int .u32 ((2 ^ n - 1 : Nat) : Int)] w (SamePost (NextR n k) w)) := hide (fun k hk w => next_any hn hk w)
  have h31 : 2 ^ n ≤ 2147483648 := Nat.le_trans (Nat.pow_le_pow_right (n := 2) (by omega) hn) (Nat.le_of_eq rfl)
  have h1 : 1 ≤ 2 ^ n := Nat.one_le_two_pow
  have HR : Hid (NextR n = fun k => if k + 1 < 2 ^ n then .tuple #[.int .u32 ((k + 1 : Nat) : Int), .bool true] else .tuple #[.int .u32 0, .bool false]) := hide rfl
  clear hY hJ hJx hb
  generalize NextR n = nx at *
  generalize 2 ^ n - 1 = al at *
  generalize 2 ^ n = t at *
  refine (callsIn_wide (n := 4)).1 ?_
  refine callsIn_of_wp Tryd.func61 rfl trivial ?_ rfl
  simp only [Tryd.ntmps61, List.size_toArray, List.length_cons, List.length_nil, Nat.reduceAdd, Nat.reduceSub, Array.replicate_succ, Array.replicate_zero, List.push_toArray, List.append_toArray, List.nil_append, List.cons_append]
  gi_wp2
  gi_loopw [3, 4] (fun v ok wr => ∃ k : Nat, k ≤ t ∧ ((k < t ∧ v = .int .u32 (k : Int) ∧ ok = .bool true) ∨ (k = t ∧ ok = .bool false)) ∧ J (List.range k) wr ∧ OutP p W wr) (fun v ok _ => match ok with | .bool true => t + 1 - (intOf v).toNat | _ => 0)
  case atStart => exact ⟨0, by omega, .inl ⟨by omega, rfl, rfl⟩, h0, OutP.refl _ _⟩
  case round =>
    obtain ⟨k, hk, hkk, hj, ho⟩ := hrel
    rcases hkk with ⟨hlt, rfl, rfl⟩ | ⟨rfl, rfl⟩
    · have hY1 := HY.out (List.range k) k wr hj ⟨by simp, hlt⟩ ho
      obtain ⟨fn, tmps, assign, body, hyy, hR⟩ := hY1 3
      simp only [encG] at hyy
      have HO := hide ho
      clear hj ho
      gi_wp2
      refine hR.mono ?_
      rintro e W3 ⟨ho3, (⟨rfl, hJ3⟩ | ⟨rfl, hJx3⟩)⟩
      · have HO3 := hide (HO.out.trans ho3)
        rw [← List.range_succ] at hJ3
        have HJ3 := hide hJ3
        have c0 := HB.out W3 HO3.out
        have HN := hide (HNX.out k hlt W3)
        rw [HR.out] at HN
        clear hJ3 ho3 hyy
        by_cases hl : k + 1 < t
        · simp only [if_pos hl] at HN
          gi_wp2_with (refine ⟨trivial, ?_⟩; gi_at_call 62; refine (callsIn_wide.2 HN.out).mono ?_; rintro e _ ⟨rfl, rfl⟩)
          go_roundw
          case rel => exact ⟨k + 1, by omega, .inl ⟨hl, by first | rfl | simp, rfl⟩, HJ3.out, HO3.out⟩
          case measure => simp [intOf]; omega
        · simp only [if_neg hl] at HN
          gi_wp2_with (refine ⟨trivial, ?_⟩; gi_at_call 62; refine (callsIn_wide.2 HN.out).mono ?_; rintro e _ ⟨rfl, rfl⟩)
          go_roundw
          case rel => exact ⟨k + 1, by omega, .inr ⟨by omega, rfl⟩, HJ3.out, HO3.out⟩
          case measure => simp [intOf]; omega
      · have HJX := hide hJx3
        clear hJx3 hyy
        gi_wp2
        refine bodyPost_ret (results_none rfl _ _ _) rfl ?_
        refine ⟨⟨_, rfl⟩, .inr ⟨_, ?_, HJX.out⟩⟩
        rw [← List.range_succ]
        have h := List.take_append_drop (k + 1) (List.range t)
        rw [List.take_range, Nat.min_eq_left (by omega)] at h
        exact ⟨_, h⟩
    · have HJ := hide hj
      clear hj
      gi_wp2
      go_end0
      exact ⟨⟨_, rfl⟩, .inl ⟨_, rfl, HJ.out⟩⟩
end Go.Proofs.YtkiebjgpghajbaaDoor
