/- The walk of the iterator of a table's names. -/
import Derived.Test.YtkidefmkgcankaaFnd
import Derived.TacticsInMore
import Derived.LoopNIn
import Derived.LoopIn
namespace Go.Proofs.Ytkidefmkgcankaa
open Go.RowKit Go.Shelf

attribute [local go_sem] Oper.semAt_some

theorem callsIn_in {m l' : Nat} {P : Program} {f : FuncId} {args : Array Value} {w : World} {R : Ending → World → Prop} (h : Calls P f args w R) : CallsIn (Fence.wide.inRound l') m P f args w R :=
  (callsIn_wide (n := m)).2 h
theorem roundIn_in {m m' l' : Nat} {P : Program} {l : Nat} {f : FuncId} {tmps : Array Value} {assign body : Code} {w : World} {R : Ending → World → Prop} (h : RoundIn Fence.wide m P l f tmps assign body w R) : RoundIn (Fence.wide.inRound l') m' P l f tmps assign body w R :=
  ⟨h.1, fun c cs _ => h.2 c cs (room_wide _)⟩
theorem grown_below {A B : World} (h : Below A.heap.size A B) : A.grownBy B none := ⟨h.os, h.tape, h.output, h.size, fun k hk _ => h.block k hk⟩
theorem ownFrom_later {β : Type} {B : Nat} {J : β → World → Prop} (h : OwnFrom B J) {s : β} {W W' : World} (hs : J s W) (hb : Below W.heap.size W W') : J s W' :=
  h s W W' none hs (grown_below hb) (fun r e => by cases e)
theorem cell?_of_out {p : Nat → Prop} {w w' : World} {g i : Nat} {v : Value} (h : OutP p w w') (hg : g < w.heap.size) (hp : ¬ p g) (hc : w.cell? ⟨g, i, none⟩ = some v) : w'.cell? ⟨g, i, none⟩ = some v :=
  (World.cell?_of_block (h.block g hg hp)).trans hc

def encN (x : Nat × ByteArray) : Array Value := #[.int .i64 (x.1 : Int), .string x.2]
def enumL (l : List ByteArray) (k : Nat) : List (Nat × ByteArray) := (List.range k).map (fun i => (i, l.getD i ⟨#[]⟩))
theorem enumL_succ (l : List ByteArray) (k : Nat) : enumL l (k + 1) = enumL l k ++ [(k, l.getD k ⟨#[]⟩)] := by unfold enumL; rw [List.range_succ, List.map_append]; rfl
theorem enumL_len (l : List ByteArray) (k : Nat) : (enumL l k).length = k := by simp [enumL]
def NextN (l : List ByteArray) (pre : List (Nat × ByteArray)) (x : Nat × ByteArray) : Prop := pre = enumL l pre.length ∧ pre.length < l.length ∧ x = (pre.length, l.getD pre.length ⟨#[]⟩)

set_option maxRecDepth 100000 in
set_option maxHeartbeats 2000000 in
theorem names_seq {l : List ByteArray} {b c B : Nat} {A : Option Addr} {p : Nat → Prop} {W : World} (hc : W.heap[b]? = some (.cells #[.slice A l.length c] 50 (0, 0))) (hr : Reads W B 1 A l.length (l.map Value.string)) (hB : B ≤ W.heap.size) (hl : l.length ≤ 2000000) (hpA : ∀ g, p g → A.map Addr.block ≠ some g) :
    SeqO p Try.prog 48 #[.pointer (some ⟨b, 0, none⟩)] encN (fun xs => xs = enumL l l.length) (fun pre => pre = enumL l pre.length ∧ pre.length ≤ l.length ∧ 0 < pre.length) (NextN l) W := by
  intro L J Jx hJ hJx hY h0
  have HY := hide hY
  have c0 := cell_of_row W b 0 _ 50 (0, 0) hc
  simp at c0
  have hat : ∀ k s, l[k]? = some s → ∃ g o, A = some ⟨g, o, none⟩ ∧ g < B ∧ W.cell? ⟨g, o + k, none⟩ = some (.string s) := fun k s hs => by
    obtain ⟨g, o, e, hb, hcc⟩ := hr.2 (by have := (List.getElem?_eq_some_iff.1 hs).1; omega)
    exact ⟨g, o, e, hb, hcc k (.string s) (by rw [List.getElem?_map, hs]; rfl)⟩
  have HAT := hide hat
  have HPA := hide hpA
  have H0 := hide h0
  have HBW := hide hB
  clear hY hJ hJx h0 hc hr hat hpA hB
  refine (callsIn_wide (n := 4)).1 ?_
  refine callsIn_of_wp Try.func48 rfl trivial ?_ rfl
  simp only [Try.ntmps48, List.size_toArray, List.length_cons, List.length_nil, Nat.reduceAdd, Nat.reduceSub, Array.replicate_succ, Array.replicate_zero, List.push_toArray, List.append_toArray, List.nil_append, List.cons_append]
  gi_wp2_with fail
  gi_loopw [7] (fun i wr => ∃ k : Nat, k ≤ l.length ∧ i = .int .i64 k ∧ J (enumL l k) wr ∧ OutP p W wr) (fun i _ => l.length - (intOf i).toNat)
  case atStart => exact ⟨0, Nat.zero_le _, rfl, H0.out, OutP.refl _ _⟩
  case round =>
    obtain ⟨k, hk, rfl, hj, ho⟩ := hrel
    by_cases hlt : k < l.length
    · obtain ⟨s, hs⟩ : ∃ s, l[k]? = some s := ⟨l[k], List.getElem?_eq_getElem hlt⟩
      have hsd : l.getD k ⟨#[]⟩ = s := by rw [List.getD_eq_getElem?_getD, hs]; rfl
      obtain ⟨g, o, rfl, hgB, hcc⟩ := HAT.out k s hs
      have e0 := cell?_of_out ho (Nat.lt_of_lt_of_le hgB HBW.out) (fun h => HPA.out _ h rfl) hcc
      have HNX : Hid (NextN l (enumL l k) (k, s)) := hide ⟨by rw [enumL_len], by rw [enumL_len]; exact hlt, by rw [enumL_len, hsd]⟩
      have HTS : Hid (enumL l (k + 1) = enumL l k ++ [(k, s)]) := hide (by rw [enumL_succ, hsd])
      have HOU := hide ho
      obtain ⟨fn, tmps, assign, body, hyy, hR⟩ := HY.out (enumL l k) (k, s) wr hj HNX.out ho 3
      simp only [encN] at hyy
      have hi1 : (k : Int) < (l.length : Int) := by omega
      have hi2 : (0 : Int) ≤ (k : Int) := by omega
      clear hs ho hj hcc
      gi_wp2_with fail
      refine hR.mono ?_
      rintro e W3 ⟨ho3, (⟨rfl, hJ3⟩ | ⟨rfl, hJx3⟩)⟩
      · have HO3 : Hid (OutP p W W3) := hide (HOU.out.trans ho3)
        rw [← HTS.out] at hJ3
        have HJ3 := hide hJ3
        clear hJ3 ho3 hyy
        gi_wp2
        go_roundw
        case rel => exact ⟨k + 1, by omega, by go_num, HJ3.out, HO3.out⟩
        case measure => simp [intOf]; omega
      · rw [← HTS.out] at hJx3
        have HJX := hide hJx3
        clear hJx3 hyy
        gi_wp2
        refine bodyPost_ret (results_none rfl _ _ _) rfl ?_
        exact ⟨⟨_, rfl⟩, .inr ⟨_, ⟨by rw [enumL_len], by rw [enumL_len]; omega, by rw [enumL_len]; omega⟩, HJX.out⟩⟩
    · have : k = l.length := by omega
      subst this
      have HJ9 := hide hj
      clear hj
      gi_wp2
      go_end0
      exact ⟨⟨_, rfl⟩, .inl ⟨_, rfl, HJ9.out⟩⟩
end Go.Proofs.Ytkidefmkgcankaa
