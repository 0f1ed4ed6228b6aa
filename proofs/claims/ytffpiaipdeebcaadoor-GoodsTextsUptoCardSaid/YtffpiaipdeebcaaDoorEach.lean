/- The walk of goods.Each: going over a set's goods. -/
import Derived.Test.YtffpiaipdeebcaaDoorTz
namespace Go.Proofs.YtffpiaipdeebcaaDoor
open Go.RowKit Go.Shelf

attribute [local go_sem] Oper.semAt_some

theorem TabW.cells {w w' : World} (h : TabW w) (hc : ∀ a : Addr, a.block = 0 → w.cell? a ≠ none → w'.cell? a = w.cell? a) : TabW w' := fun j hj => by
  have h1 := h j hj
  rw [hc ⟨0, j, none⟩ rfl (by rw [h1]; simp)]
  exact h1
theorem TabW.lt {w : World} (h : TabW w) : 0 < w.heap.size := World.block_lt_of_cell? w _ (h 0 (by omega))
theorem TabW.below {w w' : World} (h : TabW w) (hb : Below w.heap.size w w') : TabW w' := h.cells (fun a ha _ => hb.cell (by rw [ha]; exact h.lt))
theorem TabW.keep {w w' : World} {row : Option Nat} (h : TabW w) (hg : w.grownBy w' row) (hr : row ≠ some 0) : TabW w' :=
  h.cells (fun a ha hn => World.cell?_of_block (by rw [ha]; exact hg.block _ h.lt (fun e => hr e.symm)))
/-- What a round that goes on keeps: the table. -/
def KT (W W' : World) : Prop := TabW W → TabW W'
theorem KT.t {A B C : World} (h : KT A B) (k : KT B C) : KT A C := fun x => k (h x)
theorem KT.b (W : World) (l : Nat) (o o' : Obj) (h : W.heap[l]? = some o) (hc : o.isCells = false) : KT W (W.putObj l o') := fun hT => by
  have hne : l ≠ 0 := by
    rintro rfl
    obtain ⟨o2, h2, h3⟩ := cells_of_cell (hT 0 (by omega))
    simp only at h2
    rw [h] at h2
    injection h2 with h2
    rw [h2, h3] at hc
    cases hc
  exact hT.keep (grownBy_putObj' W l o') (fun e => hne (by injection e))
def encE (x : Fin 32) : Array Value := #[.int .i64 (x.val : Int)]
theorem eachF_zero (f : Nat) : eachF f 0 = [] := by cases f <;> simp [eachF]

set_option maxHeartbeats 1000000 in
theorem each_any (x : Nat) (w : World) : Calls Tryd.prog 29 #[.int .u32 (x : Int)] w fun e w' => e = .returned (.func (.func 49) #[] #[.pointer (some ⟨w.heap.size, 0, none⟩)]) ∧ w' = w.alloc (.cells #[.int .u32 (x : Int)] 25) := by
  go_enter Tryd.func29, Tryd.ntmps29
  go_wp2
  go_ret
  exact ⟨rfl, rfl⟩

set_option maxRecDepth 100000 in
set_option maxHeartbeats 2000000 in
theorem each_stops {k : Nat} (b x : Nat) (hx : x < 4294967296) (w : World) (hb : w.heap[b]? = some (.cells #[.int .u32 (x : Int)] 25 (0, 0))) (hT : TabW w) :
    SeqStopsK Fence.wide (k + 2) Tryd.prog 49 #[.pointer (some ⟨b, 0, none⟩)] encE KT (fun xs => xs = eachF 33 x) (fun pre => pre <+: eachF 33 x) 32 w := by
  intro l J Jx W hW hJ hJx hY h0
  have hT0 := hide (hT.below hW)
  have hb0 := (hW.block _ (lt_of_block hb)).trans hb
  have c0 : W.cell? ⟨b, 0, none⟩ = some (.int .u32 (x : Int)) := cell_of_row W b 0 _ 25 (0, 0) hb0
  have HY := hide hY
  clear hY hJ hJx hb hT hb0
  refine callsIn_of_wp Tryd.func49 rfl trivial ?_ rfl
  simp only [Tryd.ntmps49, List.size_toArray, List.length_cons, List.length_nil, Nat.reduceAdd, Nat.reduceSub, Array.replicate_succ, Array.replicate_zero, List.push_toArray, List.append_toArray, List.nil_append, List.cons_append]
  gi_wp2
  clear c0
  gi_loopw [3] (fun v wr => ∃ (pre : List (Fin 32)) (y : Nat), v = .int .u32 (y : Int) ∧ y < 4294967296 ∧ 2 ^ pre.length ∣ y ∧ eachF 33 x = pre ++ eachF (33 - pre.length) y ∧ J pre wr ∧ TabW wr) (fun v _ => (intOf v).toNat)
  case atStart => exact ⟨[], x, rfl, hx, Nat.one_dvd _, rfl, h0, hT0.out⟩
  case round =>
    obtain ⟨pre, y, rfl, hy, hd, he, hj, ht⟩ := hrel
    by_cases hy0 : y = 0
    · subst hy0
      have HE : Hid (eachF 33 x = pre) := hide (by rw [he, eachF_zero, List.append_nil])
      clear he hd
      gi_wp2
      go_end0
      exact ⟨⟨_, rfl⟩, .inl ⟨pre, HE.out.symm, hj⟩⟩
    · have hp := div_lt hy0 hy hd
      have ht32 : Lib.ctz 32 y < 32 := by obtain ⟨_, _, _, h⟩ := ctz_form hy0 hy; exact h
      have HTZ := hide (tz_any y hy hy0 wr ht)
      have hY1 := HY.out pre ⟨Lib.ctz 32 y, ht32⟩ wr hj (by omega)
      simp only [encE] at hY1
      have HD := hide (clear_div hy0 hy hd)
      have HLT := hide (clear_lt hy0)
      have HEE : Hid (eachF 33 x = (pre ++ [⟨Lib.ctz 32 y, ht32⟩]) ++ eachF (33 - (pre.length + 1)) (y &&& (y - 1))) := hide (by
        rw [he, List.append_assoc, show 33 - pre.length = (33 - (pre.length + 1)) + 1 by omega, eachF, if_neg hy0]
        congr 2
        apply Fin.ext
        simp [Fin.ofNat, Nat.mod_eq_of_lt ht32])
      have hand : bits .and .u32 (y : Int) ((y : Int) - 1) = ((y &&& (y - 1) : Nat) : Int) := by
        rw [show (y : Int) - 1 = ((y - 1 : Nat) : Int) by omega, u32_and_nat y _ hy (by omega)]
      have hw1 : ((y : Int) - 1) % 4294967296 = (y : Int) - 1 := by omega
      have hw2 : IntKind.u32.wrap ((y : Int) - 1) = (y : Int) - 1 := by simp only [IntKind.wrap_u32]; omega
      have hne : ((y : Int) == 0) = false := by rw [beq_eq_false_iff_ne]; omega
      have hne2 : ((y : Int) != 0) = true := by simp [bne, hne]
      have HT := hide ht
      obtain ⟨fn, tmps, assign, body, hyy, hR⟩ := hY1
      generalize Lib.ctz 32 y = t at *
      clear he hd ht
      gi_wp2_with (refine ⟨trivial, ?_⟩; gi_at_call 50; refine (callsIn_wide.2 HTZ.out).mono ?_; rintro e _ ⟨rfl, rfl⟩)
      have HJ := hide hj
      clear hj hyy
      refine hR.mono ?_
      rintro e W3 (⟨rfl, hJ3, hk3⟩ | ⟨rfl, hJx3⟩)
      · have HJ3 := hide hJ3
        have HT3 := hide (hk3 HT.out)
        clear hJ3 hk3
        gi_wp2
        go_roundw
        case rel => exact ⟨_, y &&& (y - 1), by first | rfl | (rw [hand]) | (simp only [hw1, hw2, hand]), Nat.lt_trans HLT.out hy, by rw [List.length_append, List.length_singleton]; exact HD.out, by rw [List.length_append, List.length_singleton]; exact HEE.out, HJ3.out, HT3.out⟩
        case measure => have := HLT.out; simp [intOf, hand, hw1, hw2]; omega
      · have HJX := hide hJx3
        clear hJx3
        gi_wp2
        refine bodyPost_ret (results_none rfl _ _ _) rfl ?_
        exact ⟨⟨_, rfl⟩, .inr ⟨_, ⟨_, HEE.out.symm⟩, HJX.out⟩⟩
end Go.Proofs.YtffpiaipdeebcaaDoor
