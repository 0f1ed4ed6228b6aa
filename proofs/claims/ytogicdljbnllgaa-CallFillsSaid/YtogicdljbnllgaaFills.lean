/- The walks of slices.Clone at wants, of call.Fills and of its closures. -/
import Derived.Test.YtogicdljbnllgaaAt
import Derived.StillTail
import Derived.StillTailTactics
import Derived.RangeFuncNested
import Derived.RangeFuncBound
import Derived.RangeFuncCalls
import Derived.RangeFuncLeaves
import Derived.RangeFuncFrom
import Derived.Shelf.Abstract
import Derived.Shelf.RegionOpen
import Derived.OwnWalkIn
namespace Go.Proofs.Ytogicdljbnllgaa
open Go.Shelf Go.RowKit Go.Lib Go.Sort Go.Proofs

theorem infoWt : EI Try.prog 51 (.agg #[.int .i64 0, .int .i64 0]) 2 16 := by unfold EI; kernel_rfl
theorem flat_one (l : List (Int × Int)) : ∀ u ∈ flat l, u.oneCell' = true := by
  intro u hu
  unfold flat at hu
  obtain ⟨x, _, hx⟩ := List.mem_flatMap.1 hu
  simp only [List.mem_cons, List.not_mem_nil, or_false] at hx
  rcases hx with rfl | rfl <;> rfl
theorem eqnil_none (w : World) : (binOp .eql 22 (.slice none 0 0) (.slice none 0 0)).run Try.prog w = .ok (.bool true) w := Lib.run_eql_slice_nil w _ _ none 0 0 0 0 Try.underlying22
theorem eqnil_some (w : World) (a : Addr) (n c : Nat) : (binOp .eql 22 (.slice (some a) n c) (.slice none 0 0)).run Try.prog w = .ok (.bool false) w := Lib.run_eql_slice_nil w _ _ (some a) n c 0 0 Try.underlying22

def ClonePost (l : List (Int × Int)) (w : World) (e : Ending) (w' : World) : Prop := ∃ A c, e = .returned (.slice A l.length c) ∧ w'.ownsRow w.heap.size 51 2 (.slice A l.length c) l.length (flat l) ∧ Below w.heap.size w w'
set_option maxHeartbeats 1000000 in
theorem clone_nil (w : World) : Calls Try.prog 36 #[.slice none 0 0] w (ClonePost [] w) := by
  have h1 := eqnil_none
  go_enter Try.func36, Try.ntmps36
  go_wp2
  go_ret
  exact ⟨none, 0, rfl, World.ownsRow_nil _ _ _ _, Below.refl _ _⟩
set_option maxHeartbeats 1000000 in
theorem clone_some (a : Addr) (c : Nat) (l : List (Int × Int)) (w : World) (h : Wants w w.heap.size (some a) l) (hl : l.length * 16 ≤ 140737488351232) :
    Calls Try.prog 36 #[.slice (some a) l.length c] w (ClonePost l w) := by
  have h1 := eqnil_some
  have HA := hide h
  have HO1 : Hid ((w.alloc (.cells #[] 51)).ownsRow w.heap.size 51 2 (.slice (some ⟨w.heap.size, 0, none⟩) 0 0) 0 []) := hide (World.ownsRow_made w #[] 0 (Nat.le_refl _) (by decide) rfl)
  have HB : Hid (Below w.heap.size w (w.alloc (.cells #[] 51))) := hide ((Below.refl _ _).alloc (Nat.le_refl _) _)
  have G1 := hide (flat_one l)
  have G5 : Hid (0 + l.length ≤ maxLen) := hide (by unfold maxLen; omega)
  have G6 : Hid ((0 + l.length) * 16 ≤ 140737488355328) := hide (by omega)
  clear h
  go_enter Try.func36, Try.ntmps36
  go_wp2_with (at_builtin; refine wpList_append_any rfl (.tmp 5) (.tmp 6) 22 rfl w.heap.size 51 _ 2 16 infoWt Try.underlying22 rfl (by decide) _ 0 [] rfl HO1.out w.heap.size (some a) l.length c (flat l) rfl (HA.out.below HB.out) G1.out G5.out G6.out HB.out.size ?_; intro v1 w1 hown1 hg1 _; have HO := hide hown1; have HG := hide hg1; clear hown1 hg1)
  go_ret
  obtain ⟨A, c', hv, _⟩ := own_sh HO.out
  subst hv
  have h5 := HO.out
  rw [Nat.zero_add, List.nil_append] at h5
  refine ⟨A, c', by rw [Nat.zero_add]; rfl, h5, HB.out.grown HG.out HB.out.size (fun j hj => by have := Option.some.inj (show some w.heap.size = some j from hj); omega)⟩
theorem clone_any (A : Option Addr) (c : Nat) (l : List (Int × Int)) (w : World) (h : Wants w w.heap.size A l) (hl : l.length * 16 ≤ 140737488351232) (hz : A = none → c = 0) :
    Calls Try.prog 36 #[.slice A l.length c] w (ClonePost l w) := by
  rcases A with _ | a
  · have h0 : l.length = 0 := by
      rcases Nat.eq_zero_or_pos l.length with h0 | h0
      · exact h0
      · obtain ⟨b, o, e, _⟩ := h.2 h0
        cases e
    obtain rfl := List.eq_nil_of_length_eq_zero h0
    rw [hz rfl]
    exact clone_nil w
  · exact clone_some a c l w h hl


def encF (t : Trd) : Array Value := #[.agg #[.int .i64 t.1.1, .int .i64 t.2.1.1, .int .i64 t.2.2]]
/-- The fills of two lists of wants. -/
def FillsA (b s : List (Int × Int)) : List Trd := if checkI b s = 0 then (RunA b s).1 else []

set_option maxRecDepth 100000 in
set_option maxHeartbeats 2000000 in
theorem tell_any {p : Nat → Prop} {all : List Trd} {J Jx : List Trd → World → Prop} {l yc : Nat} {W0 W : World} (hJ : LowFrom W0.heap.size J) (hW : W0.heap.size ≤ W.heap.size)
    (HY : ∀ (pre : List Trd) (x : Trd) (W1 : World), J pre W1 → pre ++ [x] <+: all → OutP p W0 W1 → ∀ m, YieldAt Fence.wide m Try.prog l (encF x) W1 fun e W' =>
      OutP (fun k => p k ∨ False) W1 W' ∧ ((e = .returned (.bool true) ∧ J (pre ++ [x]) W') ∨ (e = .returned (.bool false) ∧ Jx (pre ++ [x]) W')))
    (pre : List Trd) (t : Trd) (hpre : pre ++ [t] <+: all) (hj : J pre W) (ho : OutP p W0 W) (hy : W.cell? ⟨yc, 0, none⟩ = some (.func (.yield l) #[] #[])) :
    Calls Try.prog 38 (encT t ++ #[.pointer (some ⟨yc, 0, none⟩)]) W (fun e W' => OutP p W W' ∧ ((e = .returned (.bool true) ∧ J (pre ++ [t]) W') ∨ (e = .returned (.bool false) ∧ Jx (pre ++ [t]) W'))) := by
  obtain ⟨⟨x0, x1⟩, ⟨y0, y1⟩, n⟩ := t
  obtain ⟨t0, t1, t2⟩ := two_boxes W (.cells #[.int .i64 x0, .int .i64 x1] 68) (.cells #[.int .i64 y0, .int .i64 y1] 68)
  have c0 := (t2.cell (World.block_lt_of_cell? _ _ hy)).trans hy
  have u0 := cell_of_row _ W.heap.size 0 _ _ (0, 0) t0
  have u1 := cell_of_row _ (W.heap.size + 1) 0 _ _ (0, 0) t1
  simp only [List.getElem?_toArray, List.getElem?_cons_zero, List.getElem?_cons_succ] at u0 u1
  obtain ⟨fn, tmps, assign, body, hyy, hR⟩ := HY pre ((x0, x1), (y0, y1), n) _ (hJ _ _ _ hj (t2.mono hW)) hpre (ho.trans (OutP.of_below t2)) 3
  simp only [encF] at hyy
  simp only [encT]
  have HT2 := hide t2
  clear t0 t1 t2 hy HY hJ hj ho
  refine (callsIn_wide (n := 4)).1 ?_
  refine callsIn_of_wp Try.func38 rfl trivial ?_ rfl
  simp only [Try.ntmps38, List.size_toArray, List.length_cons, List.length_nil, Nat.reduceAdd, Nat.reduceSub, Array.replicate_succ, Array.replicate_zero, List.push_toArray, List.append_toArray, List.nil_append, List.cons_append]
  gi_wp2_with fail
  refine hR.mono ?_
  rintro e W3 ⟨ho3, h3⟩
  obtain ⟨b, rfl, hb3⟩ : ∃ b : Bool, e = .returned (.bool b) ∧ ((b = true ∧ J (pre ++ [((x0, x1), (y0, y1), n)]) W3) ∨ (b = false ∧ Jx (pre ++ [((x0, x1), (y0, y1), n)]) W3)) := by
    rcases h3 with ⟨rfl, h⟩ | ⟨rfl, h⟩
    · exact ⟨true, rfl, .inl ⟨rfl, h⟩⟩
    · exact ⟨false, rfl, .inr ⟨rfl, h⟩⟩
  have HO3 : Hid (OutP p W W3) := hide ((OutP.of_below HT2.out).trans (ho3.mono (fun k h => h.elim id False.elim)))
  have HB3 := hide hb3
  clear hR hyy h3 hb3 ho3 c0 u0 u1
  gi_wp2_with fail
  refine bodyPost_ret (v := .bool b) (by simp [results, Try.results38, go_sem]) rfl ?_
  refine ⟨HO3.out, ?_⟩
  rcases HB3.out with ⟨rfl, h⟩ | ⟨rfl, h⟩
  · exact .inl ⟨rfl, h⟩
  · exact .inr ⟨rfl, h⟩

theorem fills_end {b s : List (Int × Int)} {J Jx : List Trd → World → Prop} {C : World → Prop} {e : Ending} {w5 : World} (hf : FillsA b s = (RunA b s).1)
    (h : (∃ n o, e = .returned (.tuple #[n, o]) ∧ unitAt w5 n (RunA b s).2.1 ∧ unitAt w5 o (RunA b s).2.2 ∧ J (RunA b s).1 w5 ∧ C w5) ∨ ∃ pre, pre <+: (RunA b s).1 ∧ e = .returned (.tuple #[.pointer none, .pointer none]) ∧ Jx pre w5) :
    ∃ v, e = .returned v ∧ ((∃ xs, xs = FillsA b s ∧ J xs w5) ∨ (∃ pre, pre <+: FillsA b s ∧ Jx pre w5)) := by
  rw [hf]
  rcases h with ⟨n, o, rfl, _, _, hj, _⟩ | ⟨pre, hp, rfl, hx⟩
  · exact ⟨_, rfl, .inl ⟨_, rfl, hj⟩⟩
  · exact ⟨_, rfl, .inr ⟨pre, hp, hx⟩⟩
set_option maxRecDepth 100000 in
set_option maxHeartbeats 4000000 in
/-- What a range over Fills is given. -/
theorem fills_seq (p : Nat → Prop) (A : Option Addr) (c : Nat) (b : List (Int × Int)) (A' : Option Addr) (c' : Nat) (s : List (Int × Int)) (bc sc : Nat) (W : World) (hb : W.cell? ⟨bc, 0, none⟩ = some (.slice A b.length c)) (hs : W.cell? ⟨sc, 0, none⟩ = some (.slice A' s.length c')) (h : Wants W W.heap.size A b) (h' : Wants W W.heap.size A' s)
    (hp : ∀ i, p i → i < W.heap.size) (hA : 0 < b.length → ∀ x, A = some x → ¬ p x.block) (hA' : 0 < s.length → ∀ x, A' = some x → ¬ p x.block) :
    SeqL p (fun _ _ => False) Try.prog 37 #[.pointer (some ⟨bc, 0, none⟩), .pointer (some ⟨sc, 0, none⟩)] encF (fun xs => xs = FillsA b s) (fun pre => pre <+: FillsA b s) (fun pre x _ => pre ++ [x] <+: FillsA b s) W := by
  intro l J Jx hJ hJx HY hj
  have hb0 : Below W.heap.size W (W.alloc (.cells #[.func (.yield l) #[] #[]] 80)) := (Below.refl _ _).alloc (Nat.le_refl _) _
  have HB0 := hide hb0
  have HZ0 : Hid ((W.alloc (.cells #[.func (.yield l) #[] #[]] 80)).heap[W.heap.size]? = some (.cells #[.func (.yield l) #[] #[]] 80 (0, 0))) := hide (heap_alloc_new W _)
  have HC := hide (check_any A c b A' c' s (W.alloc (.cells #[.func (.yield l) #[] #[]] 80)) ((h.below hb0).more hb0.size) ((h'.below hb0).more hb0.size))
  have e0 := (hb0.cell (World.block_lt_of_cell? _ _ hb)).trans hb
  have e1 := (hb0.cell (World.block_lt_of_cell? _ _ hs)).trans hs
  have HCB := hide hb
  have HCS := hide hs
  have HW := hide h
  have HW' := hide h'
  have HP := hide hp
  have HA := hide hA
  have HA' := hide hA'
  have HJ := hide hJ
  have HYY := hide HY
  have HJJ := hide hj
  clear hb hs h h' hp hA hA' hJ hJx HY hj hb0
  go_enter Try.func37, Try.ntmps37
  go_upto_region 1 with fail
  generalize W.alloc (.cells #[.func (.yield l) #[] #[]] 80) = w0 at *
  by_cases hk : checkI b s = 0
  · have HOK := hide (ok_of_check hk)
    have HFA : Hid (FillsA b s = (RunA b s).1) := hide (by unfold FillsA; rw [if_pos hk])
    simp only [hk] at HC
    clear hk
    go_upto_region 2 with (go_at_call 18; refine (HC.out).mono ?_; rintro e w1 ⟨rfl, hb1⟩; have HB1 := hide hb1; clear hb1)
    have HB2 := hide (HB0.out.trans (HB1.out.mono HB0.out.size))
    have HZ1 := hide ((HB1.out.block _ (lt_of_block HZ0.out)).trans HZ0.out)
    have e2 := (HB2.out.cell (World.block_lt_of_cell? _ _ HCB.out)).trans HCB.out
    have e3 := (HB2.out.cell (World.block_lt_of_cell? _ _ HCS.out)).trans HCS.out
    have HOW : Hid (OutP p W w1) := hide (OutP.of_below HB2.out)
    have HYC : Hid (w1.cell? ⟨W.heap.size, 0, none⟩ = some (.func (.yield l) #[] #[])) := hide (cell_of_row w1 _ 0 _ _ (0, 0) HZ1.out)
    have HWA := hide (walk_any p (fun pre X => J pre X ∧ X.cell? ⟨W.heap.size, 0, none⟩ = some (.func (.yield l) #[] #[])) Jx 38 #[.pointer (some ⟨W.heap.size, 0, none⟩)] A c b A' c' s w1 ((HW.out.below HB2.out).more HB2.out.size) ((HW'.out.below HB2.out).more HB2.out.size) (by have := HOK.out.1.1; omega) (by have := HOK.out.2.1; omega) (HOK.out.1.count _) (HOK.out.2.count _) (enters_of Try.func38 (by kernel_rfl) rfl)
      (fun pre X Y hj hb => ⟨HJ.out _ _ _ hj.1 (hb.mono HB2.out.size), (hb.cell (p := ⟨W.heap.size, 0, none⟩) (World.block_lt_of_cell? _ _ HYC.out)).trans hj.2⟩) (fun i hi => Nat.lt_of_lt_of_le (HP.out i hi) HB2.out.size) HA.out HA'.out
      (fun pre t X hp hj ho => (tell_any HJ.out (Nat.le_trans HB2.out.size ho.size) HYY.out pre t (by rw [HFA.out]; exact hp) hj.1 (HOW.out.trans ho) hj.2).mono (fun e X' h => ⟨h.1, by
        rcases h.2 with ⟨he, h2⟩ | h2
        · exact .inl ⟨he, h2, h.1.cell hj.2 (fun hp' => by have := HP.out _ hp'; exact absurd this (Nat.lt_irrefl _))⟩
        · exact .inr h2⟩)) ⟨HJ.out _ _ _ HJJ.out HB2.out, HYC.out⟩)
    clear HC HB0 HB1 HZ0 HZ1 e0 e1
    go_wp2_with fail
    refine (HWA.out).mono ?_
    rintro e w5 ⟨ho5, hr5⟩
    obtain ⟨v5, rfl, hfin⟩ : ∃ v, e = .returned v ∧ ((∃ xs, xs = FillsA b s ∧ J xs w5) ∨ (∃ pre, pre <+: FillsA b s ∧ Jx pre w5)) := fills_end (J := J) (Jx := Jx) (C := fun X => X.cell? ⟨W.heap.size, 0, none⟩ = some (.func (.yield l) #[] #[])) HFA.out hr5
    have HFI := hide hfin
    clear ho5 hr5 hfin
    go_wp2_with fail
    refine bodyPost_end (results_none rfl _ _ _) rfl ?_
    exact ⟨⟨_, rfl⟩, HFI.out⟩
  · have hk1 : (checkI b s == 0) = false := by simpa using hk
    have HFA : Hid (FillsA b s = []) := hide (by unfold FillsA; rw [if_neg hk])
    clear hk
    go_upto_region 2 with (go_at_call 18; refine (HC.out).mono ?_; rintro e w1 ⟨rfl, hb1⟩; have HB1 := hide hb1; clear hb1)
    have HB2 := hide (HB0.out.trans (HB1.out.mono HB0.out.size))
    refine bodyPost_end (results_none rfl _ _ _) rfl ?_
    exact ⟨⟨_, rfl⟩, .inl ⟨_, HFA.out.symm, HJ.out _ _ _ HJJ.out HB2.out⟩⟩

theorem own_set_low {X : World} {i k : Nat} {u : Value} {B e size n : Nat} {x : Value} {xs : List Value} (hp : k < B) (h : X.ownsRow B e size x n xs) : (X.setCell ⟨k, i, none⟩ u).ownsRow B e size x n xs :=
  ownsRow_setCell_other h (fun e => by have h7 : B ≤ k := (h.lt _ e).1; omega) _
def FillsP (b s : List (Int × Int)) (w : World) (e : Ending) (w' : World) : Prop :=
  e = .returned (.func (.func 37) #[] #[.pointer (some ⟨w.heap.size, 0, none⟩), .pointer (some ⟨w.heap.size + 1, 0, none⟩)]) ∧ Below w.heap.size w w' ∧
    ∃ A c A' c', w'.heap[w.heap.size]? = some (.cells #[.slice A b.length c] 22 (0, 0)) ∧ w'.heap[w.heap.size + 1]? = some (.cells #[.slice A' s.length c'] 22 (0, 0)) ∧
      w'.ownsRow (w.heap.size + 2) 51 2 (.slice A b.length c) b.length (flat b) ∧ w'.ownsRow (w.heap.size + 2) 51 2 (.slice A' s.length c') s.length (flat s)

set_option maxRecDepth 100000 in
set_option maxHeartbeats 4000000 in
theorem fills_any (A : Option Addr) (c : Nat) (b : List (Int × Int)) (A' : Option Addr) (c' : Nat) (s : List (Int × Int)) (w : World) (h : Wants w w.heap.size A b) (h' : Wants w w.heap.size A' s) (hb : b.length * 16 ≤ 140737488351232) (hs : s.length * 16 ≤ 140737488351232) (hz : A = none → c = 0) (hz' : A' = none → c' = 0) :
    Calls Try.prog 21 #[.slice A b.length c, .slice A' s.length c'] w (FillsP b s w) := by
  obtain ⟨t0, t1, t2⟩ := two_boxes w (.cells #[.slice A b.length c] 22) (.cells #[.slice A' s.length c'] 22)
  have HT0 := hide t0
  have HT1 := hide t1
  have HT2 := hide t2
  have HW := hide h
  have HW' := hide h'
  clear t0 t1 t2 h h'
  go_enter Try.func21, Try.ntmps21
  go_upto_region 1 with fail
  generalize (w.alloc (.cells #[.slice A b.length c] 22)).alloc (.cells #[.slice A' s.length c'] 22) = w1 at *
  have HSZ : Hid (w.heap.size + 2 ≤ w1.heap.size) := hide (lt_of_block HT1.out)
  have hS0 : w1.drew.cell? ⟨w.heap.size + 1, 0, none⟩ = some (.slice A' s.length c') := cell_of_row w1.drew _ 0 _ _ (0, 0) HT1.out
  have x0 : w1.drew.cell? ⟨w.heap.size, 0, none⟩ = some (.slice A b.length c) := cell_of_row w1.drew _ 0 _ _ (0, 0) HT0.out
  have HC1 := hide (clone_any A c b w1.drew ((HW.out.below HT2.out).more HT2.out.size) hb hz)
  refine wp_region_U 5 (fun X => X.cell? ⟨w.heap.size + 1, 0, none⟩ = some (.slice A' s.length c')) rfl hS0 (fun hHeld => ?_)
  refine AnyU.take (i := 2) (v := ?v701) rfl (by kernel_rfl) (by kernel_rfl) (by kernel_rfl) (by kernel_rfl) (fun _ _ _ h => h) (Or.inl ⟨by rfl, ?hy701⟩) hHeld ?r701
  case hy701 => (intro w hSw; (try dsimp only at hSw); go_simp <;> with_reducible rfl)
  simp only [Act.put, List.setIfInBounds_toArray, List.set_cons_zero, List.set_cons_succ]
  refine AnyU.next (js := [0]) (by kernel_rfl) (by simp) (NextU.cons rfl (fun K hK => ?_) NextU.nil)
  go_simp
  refine hK.out _ _ (fun _ => hS0) (fun hHeld => ?_)
  replace hHeld := hHeld (by decide)
  try simp only [Act.put, List.setIfInBounds_toArray, List.set_cons_zero, List.set_cons_succ]
  clear x0
  refine AnyU.next (js := [1]) (by kernel_rfl) (by simp) (NextU.cons rfl (fun K hK => ?_) NextU.nil)
  go_simp
  refine (HC1.out).mono ?_
  rintro e w2 ⟨A2, c2, rfl, ho2, hb2⟩
  replace hb2 : Below w1.heap.size w1 w2 := ⟨hb2.os, hb2.tape, hb2.output, hb2.size, hb2.block⟩
  have HB2 := hide hb2
  have HO2 : Hid (w2.ownsRow w1.heap.size 51 2 (.slice A2 b.length c2) b.length (flat b)) := hide ho2
  have hS2 : w2.cell? ⟨w.heap.size + 1, 0, none⟩ = some (.slice A' s.length c') := (hb2.cell (World.block_lt_of_cell? _ _ hS0)).trans hS0
  have HC3 := hide (clone_any A' c' s w2 (((HW'.out.below HT2.out).more HT2.out.size |>.below hb2).more hb2.size) hs hz')
  clear ho2 hb2 hS0 HC1 hHeld
  go_wp2_with fail
  refine hK.out _ _ (fun _ => hS2) (fun hHeld => ?_)
  replace hHeld := hHeld (by decide)
  try simp only [Act.put, List.setIfInBounds_toArray, List.set_cons_zero, List.set_cons_succ]
  refine AnyU.next (js := [3]) (by kernel_rfl) (by simp) (NextU.cons rfl (fun K hK => ?_) NextU.nil)
  go_simp
  refine (HC3.out).mono ?_
  rintro e w3 ⟨A3, c3, rfl, ho3, hb3⟩
  have HB3 := hide hb3
  have HO3 := hide ho3
  have HO2' := hide (own_below HO2.out hb3 (Nat.le_refl _))
  have hS3 : w3.cell? ⟨w.heap.size + 1, 0, none⟩ = some (.slice A' s.length c') := (hb3.cell (World.block_lt_of_cell? _ _ hS2)).trans hS2
  have h0 : w3.heap[w.heap.size]? = some (.cells #[.slice A b.length c] 22) := by
    rw [hb3.block _ (Nat.lt_of_lt_of_le (lt_of_block HT0.out) HB2.out.size), HB2.out.block _ (lt_of_block HT0.out)]
    exact HT0.out
  have h1 : w3.heap[w.heap.size + 1]? = some (.cells #[.slice A' s.length c'] 22) := by
    rw [hb3.block _ (Nat.lt_of_lt_of_le (lt_of_block HT1.out) HB2.out.size), HB2.out.block _ (lt_of_block HT1.out)]
    exact HT1.out
  have HH0 := hide h0
  have HH1 := hide h1
  have HBB := hide (HT2.out.trans ((HB2.out.trans (hb3.mono HB2.out.size)).mono HT2.out.size))
  have HQ : Hid (w.heap.size + 2 ≤ w2.heap.size) := hide (Nat.le_trans HSZ.out HB2.out.size)
  clear ho3 hb3 hS2 HC3 h0 h1 hHeld
  go_wp2_with fail
  refine hK.out _ _ (fun _ => hS3) (fun hHeld => ?_)
  replace hHeld := hHeld (by decide)
  try simp only [Act.put, List.setIfInBounds_toArray, List.set_cons_zero, List.set_cons_succ]
  refine AnyU.next (js := [4]) (by kernel_rfl) (by simp) (NextU.cons rfl (fun K hK => ?_) NextU.nil)
  have y0 := cell_of_row w3 (w.heap.size) 0 _ _ (0, 0) HH0.out
  have y2 : ∀ i, w3.frozen? ⟨w.heap.size, i, none⟩ = false := fun i => frozen_of_row w3 (w.heap.size) i _ _ HH0.out
  simp only [List.getElem?_toArray, List.getElem?_cons_zero] at y0
  clear hHeld
  go_simp
  have hS4 : (w3.setCell ⟨w.heap.size, 0, none⟩ (.slice A2 b.length c2)).cell? ⟨w.heap.size + 1, 0, none⟩ = some (.slice A' s.length c') := cell_of_row _ _ 0 _ _ (0, 0) ((Below.heap_setCell w3 _ _ _ (by simp)).trans HH1.out)
  have HH4 := hide ((Below.heap_setCell w3 ⟨w.heap.size, 0, none⟩ (.slice A2 b.length c2) (w.heap.size + 1) (by simp)).trans HH1.out)
  have HH3 : Hid ((w3.setCell ⟨w.heap.size, 0, none⟩ (.slice A2 b.length c2)).heap[w.heap.size]? = some (.cells #[.slice A2 b.length c2] 22)) := hide (setCell_block HH0.out 0 _)
  have HBB4 : Hid (Below w.heap.size w (w3.setCell ⟨w.heap.size, 0, none⟩ (.slice A2 b.length c2))) := hide (HBB.out.setCell (Nat.le_refl _) _)
  have HO24 := hide (own_set_low (i := 0) (k := w.heap.size) (u := .slice A2 b.length c2) (by have := HSZ.out; omega) HO2'.out)
  have HO34 := hide (own_set_low (i := 0) (k := w.heap.size) (u := .slice A2 b.length c2) (by have := HQ.out; omega) HO3.out)
  clear y0 y2 hS3 HH0 HH1 HBB HO2' HO3
  generalize w3.setCell ⟨w.heap.size, 0, none⟩ (.slice A2 b.length c2) = w4 at *
  refine hK.out _ _ (fun _ => hS4) (fun hHeld => ?_)
  replace hHeld := hHeld (by decide)
  try simp only [Act.put, List.setIfInBounds_toArray, List.set_cons_zero, List.set_cons_succ]
  refine AnyU.next (js := [5]) (by kernel_rfl) (by simp) (NextU.cons rfl (fun K hK => ?_) NextU.nil)
  have z0 := cell_of_row w4 (w.heap.size + 1) 0 _ _ (0, 0) HH4.out
  have z2 : ∀ i, w4.frozen? ⟨w.heap.size + 1, i, none⟩ = false := fun i => frozen_of_row w4 (w.heap.size + 1) i _ _ HH4.out
  simp only [List.getElem?_toArray, List.getElem?_cons_zero] at z0
  clear hHeld
  go_simp
  refine hK.out _ _ (fun h => absurd h (by decide)) (fun _ => ?_)
  try simp only [Act.put, List.setIfInBounds_toArray, List.set_cons_zero, List.set_cons_succ]
  refine AnyU.over (by kernel_rfl) ?_ _
  clear z0 z2 hS4
  go_wp2_with fail
  go_ret
  have hb5 : Below w.heap.size w (w4.setCell ⟨w.heap.size + 1, 0, none⟩ (.slice A3 s.length c3)) := HBB4.out.setCell (Nat.le_succ _) _
  refine ⟨rfl, ⟨hb5.os, hb5.tape, hb5.output, hb5.size, hb5.block⟩, A2, c2, A3, c3, ?_, ?_, ?_, ?_⟩
  · exact (Below.heap_setCell w4 _ _ _ (by simp)).trans HH3.out
  · exact setCell_block HH4.out 0 _
  · exact own_base (own_set_low (by have := HSZ.out; omega) HO24.out) HSZ.out
  · exact own_base (own_set_low (by have := HQ.out; omega) HO34.out) HQ.out
end Go.Proofs.Ytogicdljbnllgaa
