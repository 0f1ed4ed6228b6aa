/- The walk of the iterator of a calendar's dues. -/
import Derived.Test.YtdaicdaakegdmaaSeqO
import Derived.Test.YtdaicdaakegdmaaCal
import Derived.TacticsInMore
import Derived.LoopNIn
import Derived.LoopIn
namespace Go.Proofs.Ytdaicdaakegdmaa
open Go.RowKit Go.Shelf

attribute [local go_sem] Oper.semAt_some

theorem callsIn_in {m l' : Nat} {P : Program} {f : FuncId} {args : Array Value} {w : World} {R : Ending → World → Prop} (h : Calls P f args w R) : CallsIn (Fence.wide.inRound l') m P f args w R :=
  (callsIn_wide (n := m)).2 h
theorem roundIn_in {m m' l' : Nat} {P : Program} {l : Nat} {f : FuncId} {tmps : Array Value} {assign body : Code} {w : World} {R : Ending → World → Prop} (h : RoundIn Fence.wide m P l f tmps assign body w R) : RoundIn (Fence.wide.inRound l') m' P l f tmps assign body w R :=
  ⟨h.1, fun c cs _ => h.2 c cs (room_wide _)⟩
theorem grown_below {A B : World} (h : Below A.heap.size A B) : A.grownBy B none := ⟨h.os, h.tape, h.output, h.size, fun k hk _ => h.block k hk⟩
theorem ownFrom_later {β : Type} {B : Nat} {J : β → World → Prop} (h : OwnFrom B J) {s : β} {W W' : World} (hs : J s W) (hb : Below W.heap.size W W') : J s W' :=
  h s W W' none hs (grown_below hb) (fun r e => by cases e)
theorem cell?_of_out {p : Nat → Prop} {w w' : World} {g i : Nat} {v : Value} (h : OutP p w w') (hg : g < w.heap.size) (hp : ¬ p g) (hc : w.cell? ⟨g, i, none⟩ = some v) : w'.cell? ⟨g, i, none⟩ = some v :=
  (World.cell?_of_block (h.block g hg hp)).trans hc

def encD (x : Du) : Array Value := #[.agg #[.int .i64 x.1, .int .i64 x.2]]
def NextD (S : List Du) (pre : List Du) (x : Du) : Prop := pre = S.take pre.length ∧ pre.length < S.length ∧ x = gD S pre.length
theorem takeD_succ (S : List Du) (k : Nat) (hk : k < S.length) : S.take (k + 1) = S.take k ++ [gD S k] := by
  rw [List.take_add_one, List.getElem?_eq_getElem hk, gD_of hk]; rfl
theorem takeD_len (S : List Du) (k : Nat) (hk : k ≤ S.length) : (S.take k).length = k := by simp; omega

set_option maxRecDepth 100000 in
set_option maxHeartbeats 2000000 in
theorem dues_seq {S : List Du} {b c B : Nat} {A : Option Addr} {p : Nat → Prop} {W : World} (hc : W.heap[b]? = some (.cells #[.slice A S.length c] 22 (0, 0))) (hr : Reads W B 2 A S.length (flatD S)) (hB : B ≤ W.heap.size) (hl : S.length ≤ 2000000) (hpA : ∀ g, p g → A.map Addr.block ≠ some g) :
    SeqO p Try.prog 37 #[.pointer (some ⟨b, 0, none⟩)] encD (fun xs => xs = S) (fun pre => pre = S.take pre.length ∧ pre.length ≤ S.length ∧ 0 < pre.length) (NextD S) W := by
  intro L J Jx hJ hJx hY h0
  have HY := hide hY
  have HJO := hide hJ
  have c0 := cell_of_row W b 0 _ 22 (0, 0) hc
  simp at c0
  have hat : ∀ k, k < S.length → ∃ g o, A = some ⟨g, o, none⟩ ∧ g < B ∧ W.cell? ⟨g, o + k * 2, none⟩ = some (.int .i64 (gD S k).1) ∧ W.cell? ⟨g, o + k * 2 + 1, none⟩ = some (.int .i64 (gD S k).2) := fun k hk => by
    obtain ⟨g, o, e, hb, hcc⟩ := hr.2 (by omega)
    have := flatD_at S k hk
    exact ⟨g, o, e, hb, hcc _ _ this.1, hcc _ _ this.2⟩
  have HAT := hide hat
  have HPA := hide hpA
  have H0 := hide h0
  have HBW := hide hB
  clear hY hJ hJx h0 hc hr hat hpA hB
  refine (callsIn_wide (n := 4)).1 ?_
  refine callsIn_of_wp Try.func37 rfl trivial ?_ rfl
  simp only [Try.ntmps37, List.size_toArray, List.length_cons, List.length_nil, Nat.reduceAdd, Nat.reduceSub, Array.replicate_succ, Array.replicate_zero, List.push_toArray, List.append_toArray, List.nil_append, List.cons_append]
  gi_wp2_with fail
  gi_loopw [7] (fun i wr => ∃ k : Nat, k ≤ S.length ∧ i = .int .i64 k ∧ J (S.take k) wr ∧ OutP p W wr) (fun i _ => S.length - (intOf i).toNat)
  case atStart => exact ⟨0, Nat.zero_le _, rfl, H0.out, OutP.refl _ _⟩
  case round =>
    obtain ⟨k, hk, rfl, hj, ho⟩ := hrel
    by_cases hlt : k < S.length
    · obtain ⟨g, o, rfl, hgB, hcc, hcd⟩ := HAT.out k hlt
      have e0 := cell?_of_out ho (Nat.lt_of_lt_of_le hgB HBW.out) (fun h => HPA.out _ h rfl) hcc
      have e1 := cell?_of_out ho (Nat.lt_of_lt_of_le hgB HBW.out) (fun h => HPA.out _ h rfl) hcd
      have HNX : Hid (NextD S (S.take k) (gD S k)) := hide ⟨by rw [takeD_len S k hk], by rw [takeD_len S k hk]; exact hlt, by rw [takeD_len S k hk]⟩
      have HTS : Hid (S.take (k + 1) = S.take k ++ [gD S k]) := hide (takeD_succ S k hlt)
      generalize gD S k = d at *
      obtain ⟨d1, d2⟩ := d
      simp only at e0 e1
      have hb1 : Below wr.heap.size wr (wr.alloc (.cells #[.int .i64 d1, .int .i64 d2] 30)) := (Below.refl _ _).alloc (Nat.le_refl _) _
      have hx1 := heap_alloc_new wr (.cells #[.int .i64 d1, .int .i64 d2] 30)
      have z0 := cell_of_row _ _ 0 _ _ (0, 0) hx1
      have z1 := cell_of_row _ _ 1 _ _ (0, 0) hx1
      simp only [List.getElem?_toArray, List.getElem?_cons_zero, List.getElem?_cons_succ] at z0 z1
      have ho1 : OutP p W (wr.alloc (.cells #[.int .i64 d1, .int .i64 d2] 30)) := ho.alloc _
      have HOU := hide ho1
      obtain ⟨fn, tmps, assign, body, hyy, hR⟩ := HY.out (S.take k) (d1, d2) _ (ownFrom_later HJO.out hj hb1) HNX.out ho1 3
      simp only [encD] at hyy
      have hi1 : (k : Int) < (S.length : Int) := by omega
      have hi2 : (0 : Int) ≤ (k : Int) := by omega
      clear ho hj hcc hcd ho1 hb1 hx1
      gi_wp2_with fail
      refine hR.mono ?_
      rintro e W3 ⟨ho3, (⟨rfl, hJ3⟩ | ⟨rfl, hJx3⟩)⟩
      · have HO3 : Hid (OutP p W W3) := hide (HOU.out.trans ho3)
        rw [← HTS.out] at hJ3
        have HJ3 := hide hJ3
        clear hJ3 ho3 hyy
        gi_wp2
        go_roundw
        case rel => exact ⟨k + 1, by omega, by go_num, HJ3.out, HO3.out⟩
        case measure => simp [intOf]; omega
      · rw [← HTS.out] at hJx3
        have HJX := hide hJx3
        clear hJx3 hyy
        gi_wp2
        refine bodyPost_ret (results_none rfl _ _ _) rfl ?_
        exact ⟨⟨_, rfl⟩, .inr ⟨_, ⟨by rw [takeD_len S (k + 1) hlt], by rw [takeD_len S (k + 1) hlt]; exact hlt, by rw [takeD_len S (k + 1) hlt]; omega⟩, HJX.out⟩⟩
    · have : k = S.length := by omega
      subst this
      rw [List.take_length] at hj
      have HJ9 := hide hj
      clear hj
      gi_wp2
      go_end0
      exact ⟨⟨_, rfl⟩, .inl ⟨_, rfl, HJ9.out⟩⟩
end Go.Proofs.Ytdaicdaakegdmaa
