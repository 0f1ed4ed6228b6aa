/- The walk of the iterator of a box's bids. -/
import Derived.Test.YtnidmoljhopcoaaPlayOwn
import Derived.Test.YtnidmoljhopcoaaSeqO
import Derived.TacticsInMore
import Derived.LoopNIn
import Derived.LoopIn
namespace Go.Proofs.Ytnidmoljhopcoaa
open Go.RowKit Go.Shelf

attribute [local go_sem] Oper.semAt_some

theorem roundIn_in {m m' l' : Nat} {P : Program} {l : Nat} {f : FuncId} {tmps : Array Value} {assign body : Code} {w : World} {R : Ending → World → Prop} (h : RoundIn Fence.wide m P l f tmps assign body w R) : RoundIn (Fence.wide.inRound l') m' P l f tmps assign body w R :=
  ⟨h.1, fun c cs _ => h.2 c cs (room_wide _)⟩
theorem callsIn_in {m l' : Nat} {P : Program} {f : FuncId} {args : Array Value} {w : World} {R : Ending → World → Prop} (h : Calls P f args w R) : CallsIn (Fence.wide.inRound l') m P f args w R :=
  (callsIn_wide (n := m)).2 h
theorem bids_out {p : Nat → Prop} {W W' : World} {A : Option Addr} {l : List (Int × Int)} (h : Bids W W.heap.size A l) (ho : OutP p W W') (hp : ∀ g o, A = some ⟨g, o, none⟩ → ¬ p g) : Bids W' W'.heap.size A l := by
  refine ⟨h.1, fun hn => ?_⟩
  obtain ⟨b, o, e, hb, hc⟩ := h.2 hn
  refine ⟨b, o, e, Nat.lt_of_lt_of_le hb ho.size, fun j u hu => ?_⟩
  rw [← hc j u hu]
  exact World.cell?_of_block (ho.block b hb (hp b o e))
theorem grown_below {A B : World} (h : Below A.heap.size A B) : A.grownBy B none := ⟨h.os, h.tape, h.output, h.size, fun k hk _ => h.block k hk⟩
theorem ownFrom_later {β : Type} {B : Nat} {J : β → World → Prop} (h : OwnFrom B J) {s : β} {W W' : World} (hs : J s W) (hb : Below W.heap.size W W') : J s W' :=
  h s W W' none hs (grown_below hb) (fun r e => by cases e)

theorem cell?_of_out {p : Nat → Prop} {w w' : World} {g i : Nat} {v : Value} (h : OutP p w w') (hg : g < w.heap.size) (hp : ¬ p g) (hc : w.cell? ⟨g, i, none⟩ = some v) : w'.cell? ⟨g, i, none⟩ = some v :=
  (World.cell?_of_block (h.block g hg hp)).trans hc
def encB (x : Int × Int) : Array Value := #[.agg #[.int .i64 x.1, .int .i64 x.2]]
def NextIn (l pre : List (Int × Int)) (x : Int × Int) : Prop := pre = l.take pre.length ∧ l[pre.length]? = some x

set_option maxRecDepth 100000 in
set_option maxHeartbeats 2000000 in
theorem all_seq {B q : Nat} {v : Value} {floor : Int} {l : List (Int × Int)} {bc : Nat} {p : Nat → Prop} {W : World} (hc : W.heap[bc]? = some (.cells #[.pointer (some ⟨q, 0, none⟩)] 39 (0, 0))) (hbx : BoxOf W B q v floor l) (hl : l.length ≤ 1000000) (hpW : ∀ k, p k → k < W.heap.size) :
    SeqO p Try.prog 37 #[.pointer (some ⟨bc, 0, none⟩)] encB (fun xs => xs = l) (fun pre => True) (NextIn l) W := by
  intro L J Jx hJ hJx hY h0
  have HY := hide hY
  have c0 := cell_of_row W bc 0 _ _ (0, 0) hc
  have c1 := hbx.cell 0
  have c2 := hbx.cell 2
  simp at c0 c1 c2
  have HN := hide (none_any q true W c1)
  have HCL := hide (clone_own v l W hbx.row hl)
  have HJ := hide hJ
  have H0 := hide h0
  clear hY hJ hJx h0 hc hbx
  refine (callsIn_wide (n := 4)).1 ?_
  refine callsIn_of_wp Try.func37 rfl trivial ?_ rfl
  simp only [Try.ntmps37, List.size_toArray, List.length_cons, List.length_nil, Nat.reduceAdd, Nat.reduceSub, Array.replicate_succ, Array.replicate_zero, List.push_toArray, List.append_toArray, List.nil_append, List.cons_append]
  gi_wp2_with fail
  refine ⟨trivial, (callsIn_wide.2 HN.out).mono ?_⟩
  rintro e _ ⟨rfl, rfl⟩
  gi_wp2_with fail
  refine ⟨trivial, (callsIn_wide.2 HCL.out).mono ?_⟩
  rintro e w1 ⟨A, cp, rfl, hown, hb1⟩
  have HO := hide hown
  have HB1 := hide hb1
  have HJ1 := hide (ownFrom_later HJ.out H0.out hb1)
  have hat : ∀ k x, l[k]? = some x → ∃ g, A = some ⟨g, 0, none⟩ ∧ W.heap.size ≤ g ∧ g < w1.heap.size ∧ w1.cell? ⟨g, k * 2, none⟩ = some (.int .i64 x.1) ∧ w1.cell? ⟨g, k * 2 + 1, none⟩ = some (.int .i64 x.2) := fun k x hx => by
    have hkl : k < l.length := (List.getElem?_eq_some_iff.1 hx).1
    obtain ⟨g, c, hv, hg⟩ := hown.form (by omega)
    injection hv with hv _ _
    obtain ⟨b, o, e, hbB, hc⟩ := (Bids.at_ (Reads.of_own hown : Bids w1 w1.heap.size A l)) (by omega)
    rw [hv] at e
    injection e with e
    injection e with e1 e2 _
    subst e1 e2
    have h5 := hc k x hx
    rw [Nat.zero_add] at h5
    exact ⟨g, hv, (hown.lt g (by rw [hv]; rfl)).1, hbB, h5.1, h5.2⟩
  have HAT := hide hat
  have HPW := hide hpW
  clear hown hb1 hat hpW
  gi_wp2_with fail
  gi_loopw [13] (fun i wr => ∃ k : Nat, k ≤ l.length ∧ i = .int .i64 k ∧ J (l.take k) wr ∧ OutP p w1 wr) (fun i _ => l.length - (intOf i).toNat)
  case atStart => exact ⟨0, Nat.zero_le _, rfl, by rw [List.take_zero]; exact HJ1.out, OutP.refl _ _⟩
  case round =>
    obtain ⟨k, hk, rfl, hj, ho⟩ := hrel
    by_cases hlt : k < l.length
    · obtain ⟨x, hx⟩ : ∃ x, l[k]? = some x := ⟨l[k], List.getElem?_eq_getElem hlt⟩
      obtain ⟨g, rfl, hgW, hg1, hc0, hc1⟩ := HAT.out k x hx
      have e0 := cell?_of_out ho hg1 (fun h => by have := HPW.out _ h; omega) hc0
      have e1 := cell?_of_out ho hg1 (fun h => by have := HPW.out _ h; omega) hc1
      have HTK : Hid ((l.take k).length = k) := hide (by rw [List.length_take]; omega)
      have HNX : Hid (NextIn l (l.take k) x) := hide ⟨by rw [HTK.out], by rw [HTK.out]; exact hx⟩
      have HTS : Hid (l.take (k + 1) = l.take k ++ [x]) := hide (by rw [List.take_add_one, hx]; rfl)
      have HX := hide hx
      have HOU := hide ho
      have HJK := hide hj
      have HOW : Hid (OutP p W wr) := hide ((OutP.of_below HB1.out).trans ho)
      obtain ⟨x1, x2⟩ := x
      simp only at e0 e1
      obtain ⟨wo, hwo⟩ : ∃ wo, wo = wr.alloc (.cells #[.int .i64 x1, .int .i64 x2] 33) := ⟨_, rfl⟩
      have HJO : Hid (J (l.take k) wo) := hide (by rw [hwo]; exact ownFrom_later HJ.out HJK.out ((Below.refl _ _).alloc (Nat.le_refl _) _))
      have HOO : Hid (OutP p w1 wo) := hide (by rw [hwo]; exact HOU.out.alloc _)
      have HOB : Hid (OutP p W wo) := hide (by rw [hwo]; exact HOW.out.alloc _)
      obtain ⟨fn, tmps, assign, body, hyy, hR⟩ := HY.out (l.take k) (x1, x2) wo HJO.out HNX.out HOB.out 3
      simp only [encB] at hyy
      rw [hwo] at hyy hR
      have HWO := hide hwo
      clear hx ho hj hc0 hc1 hwo
      gi_wp2_with fail
      refine hR.mono ?_
      rintro e W3 ⟨ho3, (⟨rfl, hJ3⟩ | ⟨rfl, hJx3⟩)⟩
      · have HO3 : Hid (OutP p w1 W3) := hide ((HOU.out.alloc _).trans ho3)
        rw [← HTS.out] at hJ3
        have HJ3 := hide hJ3
        clear hJ3 ho3 hyy
        gi_wp2
        go_roundw
        case rel => exact ⟨k + 1, by omega, by go_num, HJ3.out, HO3.out⟩
        case measure => simp [intOf]; omega
      · have HJX := hide hJx3
        clear hJx3 hyy
        gi_wp2
        refine bodyPost_ret (results_none rfl _ _ _) rfl ?_
        exact ⟨⟨_, rfl⟩, .inr ⟨_, trivial, HJX.out⟩⟩
    · have : k = l.length := by omega
      subst this
      have HJ9 := hide hj
      clear hj
      gi_wp2
      go_end0
      exact ⟨⟨_, rfl⟩, .inl ⟨_, rfl, by rw [← List.take_length (l := l)]; exact HJ9.out⟩⟩
end Go.Proofs.Ytnidmoljhopcoaa
