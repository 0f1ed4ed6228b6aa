/- The goods of any set, as what comes from goods.Each$1 under SeqO; the law GoodsEach's own records. -/
import Derived.Test.YtffpiaipdeebcaaDoorSb7
import Derived.Test.YtffpiaipdeebcaaDoorKn7
namespace Go.Proofs.YtffpiaipdeebcaaDoor
open Go.RowKit Go.Shelf

attribute [local go_sem] Oper.semAt_some

theorem callsIn_in {m l' : Nat} {P : Program} {f : FuncId} {args : Array Value} {w : World} {R : Ending → World → Prop} (h : Calls P f args w R) : CallsIn (Fence.wide.inRound l') m P f args w R :=
  (callsIn_wide (n := m)).2 h
theorem TabW.out {p : Nat → Prop} {w w' : World} (h : TabW w) (ho : OutP p w w') (hp : ¬ p 0) : TabW w' :=
  h.cells (fun a ha _ => World.cell?_of_block (by rw [ha]; exact ho.block _ h.lt hp))
set_option maxRecDepth 100000 in
set_option maxHeartbeats 2000000 in
theorem each_seq {b x : Nat} (hx : x < 4294967296) {p : Nat → Prop} {w : World} (hb : w.heap[b]? = some (.cells #[.int .u32 (x : Int)] 25 (0, 0))) (hT : TabW w) (hpT : ¬ p 0) :
    SeqO p Tryd.prog 49 #[.pointer (some ⟨b, 0, none⟩)] encE (fun xs => xs = eachF 33 x) (fun pre => pre <+: eachF 33 x) (fun pre y => pre ++ [y] <+: eachF 33 x) w := by
  intro l J Jx hJ hJx hY h0
  have hT0 := hide hT
  have c0 : w.cell? ⟨b, 0, none⟩ = some (.int .u32 (x : Int)) := cell_of_row w b 0 _ 25 (0, 0) hb
  have HY := hide hY
  clear hY hJ hJx hb hT
  refine (callsIn_wide (n := 4)).1 ?_
  refine callsIn_of_wp Tryd.func49 rfl trivial ?_ rfl
  simp only [Tryd.ntmps49, List.size_toArray, List.length_cons, List.length_nil, Nat.reduceAdd, Nat.reduceSub, Array.replicate_succ, Array.replicate_zero, List.push_toArray, List.append_toArray, List.nil_append, List.cons_append]
  gi_wp2
  clear c0
  gi_loopw [3] (fun v wr => ∃ (pre : List (Fin 32)) (y : Nat), v = .int .u32 (y : Int) ∧ y < 4294967296 ∧ 2 ^ pre.length ∣ y ∧ eachF 33 x = pre ++ eachF (33 - pre.length) y ∧ J pre wr ∧ TabW wr ∧ OutP p w wr) (fun v _ => (intOf v).toNat)
  case atStart => exact ⟨[], x, rfl, hx, Nat.one_dvd _, rfl, h0, hT0.out, OutP.refl _ _⟩
  case round =>
    obtain ⟨pre, y, rfl, hy, hd, he, hj, ht, hout⟩ := hrel
    by_cases hy0 : y = 0
    · subst hy0
      have HE : Hid (eachF 33 x = pre) := hide (by rw [he, eachF_zero, List.append_nil])
      have HJ := hide hj
      clear he hd hj ht hout
      gi_wp2
      go_end0
      exact ⟨⟨_, rfl⟩, .inl ⟨pre, HE.out.symm, HJ.out⟩⟩
    · have hp := div_lt hy0 hy hd
      have ht32 : Lib.ctz 32 y < 32 := by obtain ⟨_, _, _, h⟩ := ctz_form hy0 hy; exact h
      have HTZ := hide (tz_any y hy hy0 wr ht)
      have HD := hide (clear_div hy0 hy hd)
      have HLT := hide (clear_lt hy0)
      have HEE : Hid (eachF 33 x = (pre ++ [⟨Lib.ctz 32 y, ht32⟩]) ++ eachF (33 - (pre.length + 1)) (y &&& (y - 1))) := hide (by
        rw [he, List.append_assoc, show 33 - pre.length = (33 - (pre.length + 1)) + 1 by omega, eachF, if_neg hy0]
        congr 2
        apply Fin.ext
        simp [Fin.ofNat, Nat.mod_eq_of_lt ht32])
      have hY1 := HY.out pre ⟨Lib.ctz 32 y, ht32⟩ wr hj ⟨_, HEE.out.symm⟩ hout 3
      simp only [encE] at hY1
      have hand : bits .and .u32 (y : Int) ((y : Int) - 1) = ((y &&& (y - 1) : Nat) : Int) := by
        rw [show (y : Int) - 1 = ((y - 1 : Nat) : Int) by omega, u32_and_nat y _ hy (by omega)]
      have hw1 : ((y : Int) - 1) % 4294967296 = (y : Int) - 1 := by omega
      have hw2 : IntKind.u32.wrap ((y : Int) - 1) = (y : Int) - 1 := by simp only [IntKind.wrap_u32]; omega
      have hne : ((y : Int) == 0) = false := by rw [beq_eq_false_iff_ne]; omega
      have hne2 : ((y : Int) != 0) = true := by simp [bne, hne]
      have HT := hide ht
      have HO := hide hout
      obtain ⟨fn, tmps, assign, body, hyy, hR⟩ := hY1
      generalize Lib.ctz 32 y = t at *
      clear he hd ht hout
      gi_wp2_with (refine ⟨trivial, ?_⟩; gi_at_call 50; refine (callsIn_wide.2 HTZ.out).mono ?_; rintro e _ ⟨rfl, rfl⟩)
      have HJ := hide hj
      clear hj hyy
      refine hR.mono ?_
      rintro e W3 ⟨ho3, (⟨rfl, hJ3⟩ | ⟨rfl, hJx3⟩)⟩
      · have HJ3 := hide hJ3
        have HO3 := hide (HO.out.trans ho3)
        have HT3 := hide (HT.out.out ho3 hpT)
        clear hJ3 ho3
        gi_wp2
        go_roundw
        case rel => exact ⟨_, y &&& (y - 1), by first | rfl | (rw [hand]) | (simp only [hw1, hw2, hand]), Nat.lt_trans HLT.out hy, by rw [List.length_append, List.length_singleton]; exact HD.out, by rw [List.length_append, List.length_singleton]; exact HEE.out, HJ3.out, HT3.out, HO3.out⟩
        case measure => have := HLT.out; simp [intOf, hand, hw1, hw2]; omega
      · have HJX := hide hJx3
        clear hJx3
        gi_wp2
        refine bodyPost_ret (results_none rfl _ _ _) rfl ?_
        exact ⟨⟨_, rfl⟩, .inr ⟨_, ⟨_, HEE.out.symm⟩, HJX.out⟩⟩
/-- The law's own record: the set, when to leave, the answer so far, what the two iterators hold. -/
structure AskE (w : World) (s : Nat) (lv : Int) (b : Bool) (W : World) : Prop where
  bel : Below w.heap.size w W
  x : W.heap[w.heap.size]? = some (.cells #[.int .u32 (s : Int)] 25 (0, 0))
  l : W.heap[w.heap.size + 1]? = some (.cells #[.int .i64 lv] 3 (0, 0))
  r : W.heap[w.heap.size + 2]? = some (.cells #[.bool b] 4 (0, 0))
section
variable {w W W' : World} {s : Nat} {lv : Int} {b : Bool}
theorem AskE.below (h : AskE w s lv b W) (hb : Below W.heap.size W W') : AskE w s lv b W' := ⟨h.bel.trans (hb.mono h.bel.size), (hb.block _ (lt_of_block h.x)).trans h.x, (hb.block _ (lt_of_block h.l)).trans h.l, (hb.block _ (lt_of_block h.r)).trans h.r⟩
theorem AskE.says (h : AskE w s lv b W) (b' : Bool) : AskE w s lv b' (W.setCell ⟨w.heap.size + 2, 0, none⟩ (.bool b')) :=
  ⟨h.bel.setCell (by show w.heap.size ≤ w.heap.size + 2; omega) _, (Below.heap_setCell _ _ _ _ (by show w.heap.size ≠ w.heap.size + 2; omega)).trans h.x, (Below.heap_setCell _ _ _ _ (by show w.heap.size + 1 ≠ w.heap.size + 2; omega)).trans h.l, setCell_block h.r 0 _⟩
theorem AskE.cells (h : AskE w s lv b W) : W.cell? ⟨w.heap.size, 0, none⟩ = some (.int .u32 (s : Int)) ∧ W.cell? ⟨w.heap.size + 1, 0, none⟩ = some (.int .i64 lv) ∧ W.cell? ⟨w.heap.size + 2, 0, none⟩ = some (.bool b) ∧ W.frozen? ⟨w.heap.size + 2, 0, none⟩ = false :=
  ⟨cell_of_row W _ 0 _ _ (0, 0) h.x, cell_of_row W _ 0 _ _ (0, 0) h.l, cell_of_row W _ 0 _ _ (0, 0) h.r, frozen_of_row W _ 0 _ _ h.r⟩
theorem AskE.lt (h : AskE w s lv b W) : w.heap.size + 2 < W.heap.size := lt_of_block h.r
theorem AskE.start (w : World) (s : Nat) (lv : Int) : AskE w s lv false (((w.alloc (.cells #[.int .u32 (s : Int)] 25)).alloc (.cells #[.int .i64 lv] 3)).alloc (.cells #[.bool false] 4)) :=
  ⟨(((Below.refl _ _).alloc (Nat.le_refl _) _).alloc (by simp) _).alloc (by simp; omega) _, (Below.heap_alloc _ _ _ (by simp; omega)).trans ((Below.heap_alloc _ _ _ (by simp)).trans (heap_alloc_new w _)), by
    refine (Below.heap_alloc _ _ _ (by simp)).trans ?_
    have := heap_alloc_new (w.alloc (.cells #[.int .u32 (s : Int)] 25)) (.cells #[.int .i64 lv] 3)
    simpa using this, by
    have := heap_alloc_new ((w.alloc (.cells #[.int .u32 (s : Int)] 25)).alloc (.cells #[.int .i64 lv] 3)) (.cells #[.bool false] 4)
    simpa using this⟩
end
/-- What a turn's rounds over the goods stand on. -/
structure TurnI (wb : World) (tc kc : Nat) (T : Int) (k : Nat) (W : World) : Prop where
  bel : Below wb.heap.size wb W
  t : W.heap[tc]? = some (.cells #[.int .i64 T] 3 (0, 0))
  k : W.heap[kc]? = some (.cells #[.int .i64 (k : Int)] 3 (0, 0))
  lo : wb.heap.size ≤ tc ∧ wb.heap.size ≤ kc ∧ tc ≠ kc
section
variable {wb W W' : World} {tc kc : Nat} {T : Int} {k : Nat}
theorem TurnI.low (h : TurnI wb tc kc T k W) {S : Nat} (h1 : tc < S) (h2 : kc < S) (hb : Below S W W') : TurnI wb tc kc T k W' :=
  ⟨h.bel.trans (hb.mono (by have := h.lo; omega)), (hb.block _ h1).trans h.t, (hb.block _ h2).trans h.k, h.lo⟩
theorem TurnI.below (h : TurnI wb tc kc T k W) (hb : Below W.heap.size W W') : TurnI wb tc kc T k W' := h.low (lt_of_block h.t) (lt_of_block h.k) hb
theorem TurnI.own {row : Option Nat} {S : Nat} (h : TurnI wb tc kc T k W) (h1 : tc < S) (h2 : kc < S) (hg : W.grownBy W' row) (hr : ∀ r, row = some r → S ≤ r) : TurnI wb tc kc T k W' := by
  have key : ∀ {j : Nat} {o : Obj}, j < S → W.heap[j]? = some o → W'.heap[j]? = some o := fun hj ho => (hg.block _ (lt_of_block ho) (fun e => by have := hr _ e.symm; omega)).trans ho
  exact ⟨h.bel.grown hg h.bel.size (fun r e => by have := hr r e; have := h.lo; omega), key h1 h.t, key h2 h.k, h.lo⟩
theorem TurnI.next (h : TurnI wb tc kc T k W) (k' : Nat) : TurnI wb tc kc T k' (W.setCell ⟨kc, 0, none⟩ (.int .i64 (k' : Int))) :=
  ⟨h.bel.setCell h.lo.2.1 _, (Below.heap_setCell W _ _ _ h.lo.2.2).trans h.t, setCell_block h.k 0 _, h.lo⟩
theorem TurnI.cells (h : TurnI wb tc kc T k W) : W.cell? ⟨tc, 0, none⟩ = some (.int .i64 T) ∧ W.cell? ⟨kc, 0, none⟩ = some (.int .i64 (k : Int)) ∧ W.frozen? ⟨kc, 0, none⟩ = false :=
  ⟨cell_of_row W _ 0 _ _ (0, 0) h.t, cell_of_row W _ 0 _ _ (0, 0) h.k, frozen_of_row W _ 0 _ _ h.k⟩
theorem TurnI.start (wb : World) (T : Int) : TurnI wb wb.heap.size (wb.heap.size + 1) T 0 ((wb.alloc (.cells #[.int .i64 T] 3)).alloc (.cells #[.int .i64 0] 3)) ∧ ((wb.alloc (.cells #[.int .i64 T] 3)).alloc (.cells #[.int .i64 0] 3)).heap.size = wb.heap.size + 2 :=
  ⟨⟨((Below.refl _ _).alloc (Nat.le_refl _) _).alloc (by simp) _, (Below.heap_alloc _ _ _ (by simp)).trans (heap_alloc_new wb _), by
    have := heap_alloc_new (wb.alloc (.cells #[.int .i64 T] 3)) (.cells #[.int .i64 0] 3)
    simpa using this, by omega⟩, by simp⟩
end
/-- What a turn's rounds over the subsets stand on: how many, which one comes, whether one does. -/
structure TurnX (wb : World) (B : Nat) (k : Nat) (at_ : Nat) (more : Bool) (W : World) : Prop where
  bel : Below wb.heap.size wb W
  k : W.heap[B]? = some (.cells #[.int .i64 (k : Int)] 3 (0, 0))
  a : W.heap[B + 1]? = some (.cells #[.int .u32 (at_ : Int)] 25 (0, 0))
  m : W.heap[B + 2]? = some (.cells #[.bool more] 4 (0, 0))
  lo : wb.heap.size ≤ B
section
variable {wb W W' : World} {B k a : Nat} {m : Bool}
theorem TurnX.below (h : TurnX wb B k a m W) (hb : Below W.heap.size W W') : TurnX wb B k a m W' :=
  ⟨h.bel.trans (hb.mono h.bel.size), (hb.block _ (lt_of_block h.k)).trans h.k, (hb.block _ (lt_of_block h.a)).trans h.a, (hb.block _ (lt_of_block h.m)).trans h.m, h.lo⟩
theorem TurnX.own {row : Option Nat} {S : Nat} (h : TurnX wb B k a m W) (h1 : B + 3 ≤ S) (hg : W.grownBy W' row) (hr : ∀ r, row = some r → S ≤ r) : TurnX wb B k a m W' := by
  have key : ∀ {j : Nat} {o : Obj}, j < S → W.heap[j]? = some o → W'.heap[j]? = some o := fun hj ho => (hg.block _ (lt_of_block ho) (fun e => by have := hr _ e.symm; omega)).trans ho
  exact ⟨h.bel.grown hg h.bel.size (fun r e => by have := hr r e; have := h.lo; omega), key (by omega) h.k, key (by omega) h.a, key (by omega) h.m, h.lo⟩
theorem TurnX.cells (h : TurnX wb B k a m W) : W.cell? ⟨B, 0, none⟩ = some (.int .i64 (k : Int)) ∧ W.cell? ⟨B + 1, 0, none⟩ = some (.int .u32 (a : Int)) ∧ W.cell? ⟨B + 2, 0, none⟩ = some (.bool m) ∧ W.frozen? ⟨B, 0, none⟩ = false ∧ W.frozen? ⟨B + 1, 0, none⟩ = false ∧ W.frozen? ⟨B + 2, 0, none⟩ = false :=
  ⟨cell_of_row W _ 0 _ _ (0, 0) h.k, cell_of_row W _ 0 _ _ (0, 0) h.a, cell_of_row W _ 0 _ _ (0, 0) h.m, frozen_of_row W _ 0 _ _ h.k, frozen_of_row W _ 0 _ _ h.a, frozen_of_row W _ 0 _ _ h.m⟩
theorem TurnX.setK (h : TurnX wb B k a m W) (k' : Nat) : TurnX wb B k' a m (W.setCell ⟨B, 0, none⟩ (.int .i64 (k' : Int))) :=
  ⟨h.bel.setCell h.lo _, setCell_block h.k 0 _, (Below.heap_setCell W _ _ _ (by show B + 1 ≠ B; omega)).trans h.a, (Below.heap_setCell W _ _ _ (by show B + 2 ≠ B; omega)).trans h.m, h.lo⟩
theorem TurnX.setA (h : TurnX wb B k a m W) (a' : Nat) : TurnX wb B k a' m (W.setCell ⟨B + 1, 0, none⟩ (.int .u32 (a' : Int))) :=
  ⟨h.bel.setCell (by have := h.lo; show _ ≤ B + 1; omega) _, (Below.heap_setCell W _ _ _ (by show B ≠ B + 1; omega)).trans h.k, setCell_block h.a 0 _, (Below.heap_setCell W _ _ _ (by show B + 2 ≠ B + 1; omega)).trans h.m, h.lo⟩
theorem TurnX.setM (h : TurnX wb B k a m W) (m' : Bool) : TurnX wb B k a m' (W.setCell ⟨B + 2, 0, none⟩ (.bool m')) :=
  ⟨h.bel.setCell (by have := h.lo; show _ ≤ B + 2; omega) _, (Below.heap_setCell W _ _ _ (by show B ≠ B + 2; omega)).trans h.k, (Below.heap_setCell W _ _ _ (by show B + 1 ≠ B + 2; omega)).trans h.a, setCell_block h.m 0 _, h.lo⟩
theorem TurnX.start (wb : World) : TurnX wb wb.heap.size 0 0 true (((wb.alloc (.cells #[.int .i64 0] 3)).alloc (.cells #[.int .u32 0] 25)).alloc (.cells #[.bool true] 4)) :=
  ⟨(((Below.refl _ _).alloc (Nat.le_refl _) _).alloc (by simp) _).alloc (by simp; omega) _, (Below.heap_alloc _ _ _ (by simp; omega)).trans ((Below.heap_alloc _ _ _ (by simp)).trans (heap_alloc_new wb _)), by
    refine (Below.heap_alloc _ _ _ (by simp)).trans ?_
    have := heap_alloc_new (wb.alloc (.cells #[.int .i64 0] 3)) (.cells #[.int .u32 0] 25)
    simpa using this, by
    have := heap_alloc_new ((wb.alloc (.cells #[.int .i64 0] 3)).alloc (.cells #[.int .u32 0] 25)) (.cells #[.bool true] 4)
    simpa using this, Nat.le_refl _⟩
end
/-- The range, and what stands behind it, walked once: whether it ended or was left by a jump. -/
theorem wpIn_rangeCut {α : Type} {P : Program} {n : Nat} {g : Operand} {ps : Array Tmp} {assign body : Code} {Q : Exit → Act → World → Prop} {a : Act} {w : World} {gf : Nat} {lb : Array Value}
    (hg : a.eval g = .func (.func gf) #[] lb) (eg : ∀ args w, (callFunc gf args).run P w = .ok (.enter gf args) w) {encs : α → Array Value} {S Sp : List α → Prop} {E : List α → α → Prop} (p : Nat → Prop) (hp : ¬ p w.heap.size) (hp' : ¬ p (w.heap.size + 1))
    (hseq : ∀ W, Below w.heap.size w W → W.heap.size = w.heap.size + 2 → SeqO (fun k => p k ∨ k = w.heap.size + 1) P gf lb encs S Sp E W) (hps : ∀ x, (encs x).size = ps.size)
    (id : Nat) (I Ix : List α → World → Prop) (R : World → Prop) (hI : OwnFrom w.heap.size I) (hIx : OwnFrom w.heap.size Ix) (h0 : I [] w) (a₁ : α → Act) (m : Nat)
    (hassign : ∀ (l : Nat) (pre : List α) (x : α) (W : World) (K : Act → World → Prop), E pre x → K (a₁ x) W →
      assign.wpIn (Fence.wide.inRound l) m P (Exit.then K (fun _ _ _ => False)) { tmps := (ps.zip (encs x)).foldl (fun t (p, v) => t.setIfInBounds p v) a.tmps, defers := [] } W)
    (hbody : ∀ (l : Nat) (pre : List α) (x : α) (W : World), I pre W → E pre x → w.heap.size + 2 ≤ W.heap.size → body.wpIn (Fence.wide.inRound l) m P (bodyO p I (fun c pre W => c = .exit id ∧ Ix pre W) (pre ++ [x]) W) (a₁ x) W)
    (hR : ∀ xs W, S xs → I xs W → R W) (hRx : ∀ pre W, Sp pre → Ix pre W → R W)
    (hex : ∀ a W, Q .normal a W → Q (.exit id) a W)
    (hrest : ∀ (D : Nat) (W : World), w.heap.size ≤ D → R W → W.heap[D]? = some (.deferred (some [])) → Q .normal { a with defers := { target := .collected D, args := #[] } :: a.defers } W) :
    (Code.rangeFunc g ps assign body).wpIn Fence.wide n P Q a w := by
  refine wpIn_rangeSeq hg eg p hp hp' hseq hps I (fun c pre W => c = .exit id ∧ Ix pre W) hI (fun c s A C row hs hg' hr => ⟨hs.1, hIx s A C row hs.2 hg' hr⟩) h0 a₁ m hassign hbody ?_ ?_
  · exact fun D xs W hD hS hi hK => hrest D W hD (hR xs W hS hi) hK
  · rintro D c pre W hD hSp ⟨rfl, hi⟩ hK
    exact wpIn_exit (hex _ _ (hrest D W hD (hRx pre W hSp hi) hK))
/-- A turn is not left yet; it is left. -/
def OnE (T lv : Int) (n : Nat) : Prop := T = 0 → 0 < lv → (n : Int) < lv
def LeftE (T lv : Int) (n : Nat) : Prop := T = 0 ∧ 0 < n ∧ (n : Int) = lv
/-- How many goods a turn goes over. -/
def CountE (T lv : Int) (m n : Nat) : Prop := if T = 0 ∧ 0 < lv then (n : Int) = min lv m else n = m
/-- What is to come: nothing came yet, or the one behind the last. -/
def AtX (s : Nat) (pre : List Nat) (a : Nat) (m : Bool) : Prop := (pre = [] ∧ a = 0 ∧ m = true) ∨ ∃ q y, pre = q ++ [y] ∧ nextG y s = (a, m)
theorem AtX.chain {s : Nat} {pre : List Nat} {a x : Nat} {m : Bool} (h : AtX s pre a m) (hc : ChainTo s pre x) : m = true ∧ a = x := by
  cases hc with
  | start =>
    rcases h with ⟨_, rfl, rfl⟩ | ⟨q, y, h, _⟩
    · exact ⟨rfl, rfl⟩
    · exact absurd h.symm (by simp)
  | next h0 h2 =>
    rcases h with ⟨h, _⟩ | ⟨q, y, h, hn⟩
    · exact absurd h (by simp)
    · obtain ⟨_, hy⟩ := List.append_inj' h rfl
      injection hy with hy _
      subst hy
      rw [hn] at h2 ⊢
      exact ⟨h2, rfl⟩
theorem leave_one {fn : Func} {tmps : Array Value} {R : Ending → World → Prop} {D : Nat} {rest : List Deferred} {W : World} (hK : W.heap[D]? = some (.deferred (some []))) (h : LeavesInM Fence.wide 9 Tryd.prog fn tmps R rest .returning (W.putObj D (.deferred none))) :
    LeavesInM Fence.wide 9 Tryd.prog fn tmps R ({ target := .collected D, args := #[] } :: rest) .returning W := ⟨by simp, .inl ⟨D, _, rfl, run_takeDeferred hK, h⟩⟩
/-- The law says yes. -/
theorem ask_end {fn : Func} {tmps : Array Value} {w W : World} {s : Nat} {lv : Int} {D0 D1 D2 D3 : Nat} (h : AskE w s lv true W) (h0 : w.heap.size + 3 ≤ D0) (h1 : D0 < D1) (h2 : D1 < D2) (h3 : D2 < D3)
    (hK0 : W.heap[D0]? = some (.deferred (some []))) (hK1 : W.heap[D1]? = some (.deferred (some []))) (hK2 : W.heap[D2]? = some (.deferred (some []))) (hK3 : W.heap[D3]? = some (.deferred (some [])))
    (hr : ∀ W', W'.cell? ⟨w.heap.size + 2, 0, none⟩ = some (.bool true) → (results fn tmps).run Tryd.prog W' = .ok (.bool true) W') :
    LeavesInM Fence.wide 9 Tryd.prog fn tmps (ValPost (.bool true) w) [{ target := .collected D3, args := #[] }, { target := .collected D2, args := #[] }, { target := .collected D1, args := #[] }, { target := .collected D0, args := #[] }] .returning W := by
  have put : ∀ {V : World} {i j : Nat} {o : Obj}, i ≠ j → V.heap[i]? = some o → (V.putObj j (.deferred none)).heap[i]? = some o := fun hij ho => (World.putObj_heap_other hij).trans ho
  refine leave_one hK3 (leave_one (put (by omega) hK2) (leave_one (put (by omega) (put (by omega) hK1)) (leave_one (put (by omega) (put (by omega) (put (by omega) hK0))) ?_)))
  have hb := put (j := D0) (by omega) (put (j := D1) (by omega) (put (j := D2) (by omega) (put (j := D3) (by omega) h.r)))
  refine ⟨.bool true, hr _ (cell_of_row _ _ 0 _ _ (0, 0) hb), rfl, ?_⟩
  have go : ∀ {V : World} {D : Nat}, w.heap.size ≤ D → Below w.heap.size w V → Below w.heap.size w (V.putObj D (.deferred none)) := fun hD hV => hV.grown (grownBy_putObj' _ _ _) hV.size (fun k e => by injection e with e; omega)
  exact go (by omega) (go (by omega) (go (by omega) (go (by omega) h.bel)))
end Go.Proofs.YtffpiaipdeebcaaDoor
