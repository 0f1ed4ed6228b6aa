/- The walks of goods.Subsets: the chain of a set's subsets (out of g08's XSubs; not built yet). -/
import Derived.Test.YtffpiaipdeebcaaDoorSeqO
import Derived.Test.YtffpiaipdeebcaaDoorEaP
import Derived.Test.YtffpiaipdeebcaaDoorGd1
namespace Go.Proofs.YtffpiaipdeebcaaDoor
open Go.RowKit Go.Shelf

attribute [local go_sem] Oper.semAt_some

/-- The subsets told so far, and the one that comes. -/
inductive ChainTo (o : Nat) : List Nat → Nat → Prop where
  | start : ChainTo o [] 0
  | next {pre : List Nat} {s : Nat} : ChainTo o pre s → (nextG s o).2 = true → ChainTo o (pre ++ [s]) (nextG s o).1
theorem ChainTo.lt {o : Nat} (ho : o < 4294967296) {pre : List Nat} {s : Nat} (h : ChainTo o pre s) : s < 4294967296 ∧ s ≤ o := by
  induction h with
  | start => exact ⟨by omega, Nat.zero_le _⟩
  | next h h2 ih =>
    have hg := next_grows ih.1 ho h2
    refine ⟨hg.2.1, within_le _ _ ?_⟩
    rw [and_eq_iff]
    exact (withinB_iff _ _ hg.2.1 ho).1 hg.2.2
theorem subsets_any (x : Nat) (w : World) : Calls Tryd.prog 30 #[.int .u32 (x : Int)] w fun e w' => e = .returned (.func (.func 51) #[] #[.pointer (some ⟨w.heap.size, 0, none⟩)]) ∧ w' = w.alloc (.cells #[.int .u32 (x : Int)] 25) := by
  go_enter Tryd.func30, Tryd.ntmps30
  go_wp2
  go_ret
  exact ⟨rfl, rfl⟩

def encG (x : Nat) : Array Value := #[.int .u32 (x : Int)]
set_option maxRecDepth 100000 in
set_option maxHeartbeats 2000000 in
theorem subs_seq {o b : Nat} (ho : o < 4294967296) {p : Nat → Prop} {W : World} (hb : W.heap[b]? = some (.cells #[.int .u32 (o : Int)] 25 (0, 0))) (hpb : ¬ p b) :
    SeqO p Tryd.prog 51 #[.pointer (some ⟨b, 0, none⟩)] encG (fun xs => ∃ pre s, xs = pre ++ [s] ∧ ChainTo o pre s ∧ (nextG s o).2 = false) (fun xs => ∃ pre s, xs = pre ++ [s] ∧ ChainTo o pre s) (fun pre x => ChainTo o pre x) W := by
  intro l J Jx hJ hJx hY h0
  have HB : Hid (∀ W', OutP p W W' → W'.cell? ⟨b, 0, none⟩ = some (.int .u32 (o : Int))) := hide (fun W' h => cell_of_row W' b 0 _ 25 (0, 0) ((h.block b (lt_of_block hb) hpb).trans hb))
  have HY := hide hY
  have HNX := hide (fun s hs w => next_any s o hs ho w)
  unfold SamePost at HNX
  clear hY hJ hJx hb
  refine (callsIn_wide (n := 4)).1 ?_
  refine callsIn_of_wp Tryd.func51 rfl trivial ?_ rfl
  simp only [Tryd.ntmps51, List.size_toArray, List.length_cons, List.length_nil, Nat.reduceAdd, Nat.reduceSub, Array.replicate_succ, Array.replicate_zero, List.push_toArray, List.append_toArray, List.nil_append, List.cons_append]
  gi_wp2
  gi_loopw [3, 4] (fun v ok wr => ∃ pre : List Nat, ((∃ s : Nat, ok = .bool true ∧ v = .int .u32 (s : Int) ∧ ChainTo o pre s) ∨ (ok = .bool false ∧ ∃ pre' s', pre = pre' ++ [s'] ∧ ChainTo o pre' s' ∧ (nextG s' o).2 = false)) ∧ J pre wr ∧ OutP p W wr) (fun v ok _ => match ok with | .bool true => o + 1 - (intOf v).toNat | _ => 0)
  case atStart => exact ⟨[], .inl ⟨0, rfl, rfl, .start⟩, h0, OutP.refl _ _⟩
  case round =>
    obtain ⟨pre, hkk, hj, hout⟩ := hrel
    rcases hkk with ⟨s, rfl, rfl, hch⟩ | ⟨rfl, pre', s', rfl, hch, hend⟩
    · have hs := hch.lt ho
      have hY1 := HY.out pre s wr hj hch hout
      obtain ⟨fn, tmps, assign, body, hyy, hR⟩ := hY1 3
      simp only [encG] at hyy
      have HO := hide hout
      have HCH := hide hch
      clear hj hout hch
      gi_wp2
      refine hR.mono ?_
      rintro e W3 ⟨ho3, (⟨rfl, hJ3⟩ | ⟨rfl, hJx3⟩)⟩
      · have HO3 := hide (HO.out.trans ho3)
        have HJ3 := hide hJ3
        have c0 := HB.out W3 HO3.out
        have HN := hide (HNX.out s hs.1 W3)
        have HG := hide (fun h => next_grows hs.1 ho h)
        have HCN := hide (fun h => ChainTo.next HCH.out h)
        obtain ⟨⟨nv, nb⟩, hnx⟩ : ∃ r, nextG s o = r := ⟨_, rfl⟩
        have HNE := hide hnx
        rw [hnx] at HN HG HCN
        clear hJ3 ho3 hyy hnx
        cases nb
        · gi_wp2_with (refine ⟨trivial, ?_⟩; gi_at_call 32; refine (callsIn_wide.2 HN.out).mono ?_; rintro e _ ⟨rfl, rfl⟩)
          go_roundw
          case rel => exact ⟨pre ++ [s], .inr ⟨by first | rfl | trivial, pre, s, rfl, HCH.out, by rw [HNE.out]⟩, HJ3.out, HO3.out⟩
          case measure => simp [intOf]; omega
        · have hg := HG.out (by trivial)
          have hle := (HCN.out (by trivial)).lt ho
          gi_wp2_with (refine ⟨trivial, ?_⟩; gi_at_call 32; refine (callsIn_wide.2 HN.out).mono ?_; rintro e _ ⟨rfl, rfl⟩)
          go_roundw
          case rel => exact ⟨pre ++ [s], .inl ⟨nv, by first | rfl | trivial, by first | rfl | trivial, by simpa using HCN.out⟩, HJ3.out, HO3.out⟩
          case measure => simp [intOf]; omega
      · have HJX := hide hJx3
        clear hJx3 hyy
        gi_wp2
        refine bodyPost_ret (results_none rfl _ _ _) rfl ?_
        exact ⟨⟨_, rfl⟩, .inr ⟨_, ⟨pre, s, rfl, HCH.out⟩, HJX.out⟩⟩
    · have HJ := hide hj
      have HCH := hide (And.intro hch hend)
      clear hj hch hend
      gi_wp2
      go_end0
      exact ⟨⟨_, rfl⟩, .inl ⟨_, ⟨pre', s', rfl, HCH.out.1, HCH.out.2⟩, HJ.out⟩⟩
end Go.Proofs.YtffpiaipdeebcaaDoor
