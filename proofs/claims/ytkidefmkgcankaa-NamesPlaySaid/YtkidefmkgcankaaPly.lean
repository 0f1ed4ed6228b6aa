/- The walk of NamesPlay. -/
import Derived.Test.YtkidefmkgcankaaPlw
import Derived.Deep.CutRange
namespace Go.Proofs.Ytkidefmkgcankaa
open Go.RowKit Go.Maps Go.Shelf
open Go.ChangeMaps Go.WideMaps

/-- A list of steps that stands in memory. -/
structure OpsW (w : World) (A : Option Addr) (n : Nat) : Prop where
  at_ : ∀ k, k < n → ∃ g o a b s d, A = some ⟨g, o, none⟩ ∧ g < w.heap.size ∧ w.cell? ⟨g, o + k * 4, none⟩ = some (.int .i64 a) ∧ w.cell? ⟨g, o + k * 4 + 1, none⟩ = some (.int .i64 b) ∧ w.cell? ⟨g, o + k * 4 + 2, none⟩ = some (.string s) ∧ w.cell? ⟨g, o + k * 4 + 3, none⟩ = some (.int .i64 d) ∧ s.size ≤ maxLen
set_option maxHeartbeats 1000000 in
theorem new_bad (most : Int) (w : World) (h : most < 0 ∨ 1048576 < most) : Calls Try.prog 12 #[.int .i64 most] w (SameP (.tuple #[.pointer none, .int .i64 2]) w) := by
  by_cases h1 : most < 0
  · clear h
    go_enter Try.func12, Try.ntmps12
    go_wp2_with fail
    go_ret2
    exact ⟨rfl, rfl⟩
  · have h2 : 1048576 < most := by omega
    clear h
    go_enter Try.func12, Try.ntmps12
    go_wp2_with fail
    go_ret2
    exact ⟨rfl, rfl⟩
/-- Two pairs, apart. -/
theorem PrsW.two {B M : Nat} {X0 X1 : Pr} {W : World} (h0 : PrW B M X0 W) (h1 : PrW B M X1 W) (ha : ∀ k, X0.Mut k → ¬ X1.All k) (hb : ∀ k, X1.Mut k → ¬ X0.All k) (s0 : ∀ k, X0.Mut k → X0.vd.ownBlock ≠ some k) (s1 : ∀ k, X1.Mut k → X1.vd.ownBlock ≠ some k) (c0 : ¬ X0.Cl X0.q) (c1 : ¬ X1.Cl X1.q) :
    PrsW B M (fun b => cond b X1 X0) [] W := by
  refine ⟨fun b => ?_, (fun Y hY => by cases hY), fun b => ?_, fun b => ?_, fun b => ?_, (fun Y hY => by cases hY)⟩
  · cases b
    · exact h0
    · exact h1
  · cases b
    · exact ha
    · exact hb
  · cases b
    · exact s0
    · exact s1
  · cases b
    · exact c0
    · exact c1
/-- The struct of the law while the tables are being made: none, one, both. -/
def nilV : Value := .pointer none
def noS : Value := .slice none 0 0
structure OneW (w : World) (X : Pr) (W : World) : Prop where
  pr : PrW w.heap.size 100 X W
  self : ∀ k, X.Mut k → X.vd.ownBlock ≠ some k
  cq : ¬ X.Cl X.q
  far : ∀ k, X.All k → w.heap.size < k
def FillW (w : World) (k : Nat) (W : World) : Prop :=
  Below w.heap.size w W ∧ ((k = 0 ∧ W.heap[w.heap.size]? = some (.cells #[nilV, nilV, nilV, nilV, noS, noS] 39 (0, 0))) ∨
    (k = 1 ∧ ∃ X0, W.heap[w.heap.size]? = some (.cells #[ptrV X0.p, nilV, ptrV X0.q, nilV, noS, noS] 39 (0, 0)) ∧ OneW w X0 W) ∨
    (k = 2 ∧ ∃ X, StW w.heap.size 100 w.heap.size X [] noS noS W))
/-- What two more calls leave: a pair of its own. -/
structure PairW (W0 W1 : World) (p m q : Nat) (v vd : Value) (most : Int) (W : World) : Prop where
  nt : NT W1 W0.heap.size p v m [] most
  dt : DocT W W1.heap.size q vd [] most
  b1 : Below W0.heap.size W0 W1
  b2 : Below W1.heap.size W1 W
section
variable {W0 W1 W : World} {p m q : Nat} {v vd : Value} {most : Int}
def prOf (p m q : Nat) (v vd : Value) (most : Int) : Pr := ⟨p, m, q, v, vd, [], most⟩
theorem PairW.cl (h : PairW W0 W1 p m q v vd most W) : ∀ k, (prOf p m q v vd most).Cl k → W0.heap.size ≤ k ∧ k < W1.heap.size := fun k hk => ⟨h.nt.own_foot k hk, h.nt.lt k hk⟩
theorem PairW.doc (h : PairW W0 W1 p m q v vd most W) : ∀ k, (k = q ∨ vd.ownBlock = some k) → W1.heap.size ≤ k ∧ k < W.heap.size := fun k hk => by
  rcases hk with rfl | hk
  · exact ⟨h.dt.base, lt_of_block h.dt.blk⟩
  · exact h.dt.row.at_ k hk
theorem PairW.all (h : PairW W0 W1 p m q v vd most W) : ∀ k, (prOf p m q v vd most).All k → W0.heap.size ≤ k ∧ k < W.heap.size := fun k hk => by
  have z1 := h.b1.size
  have z2 := h.b2.size
  rcases hk with (hk | hk) | hk
  · have := h.cl k hk; omega
  · have := h.doc k (.inl hk); omega
  · have := h.doc k (.inr hk); omega
theorem PairW.self (h : PairW W0 W1 p m q v vd most W) : ∀ k, (prOf p m q v vd most).Mut k → (prOf p m q v vd most).vd.ownBlock ≠ some k := by
  rintro k (hk | hk) e
  · have := h.cl k hk; have := h.doc k (.inr e); omega
  · have hk : k = q := hk
    rw [hk] at e
    exact h.dt.ap q e rfl
theorem PairW.cq (h : PairW W0 W1 p m q v vd most W) : ¬ (prOf p m q v vd most).Cl (prOf p m q v vd most).q := fun hk => by
  have h1 := h.cl _ hk
  have h2 := h.doc (prOf p m q v vd most).q (.inl rfl)
  omega
theorem PairW.pr (h : PairW W0 W1 p m q v vd most W) {B : Nat} (hB : B ≤ W0.heap.size) : PrW B 100 (prOf p m q v vd most) W :=
  ⟨(h.nt.below h.b2).lower hB, h.dt.lower (Nat.le_trans hB h.b1.size), by simp [prOf]⟩
end
section
variable {w W0 W1 W W' : World} {p m q : Nat} {v vd : Value} {most : Int}
theorem only_wp2 (W : World) (a k1 k2 : Nat) (x y : Value) : Only (fun i => i = a) W ((W.setCell ⟨a, k1, none⟩ x).setCell ⟨a, k2, none⟩ y) :=
  Only.set (S := fun i => i = a) (Only.set (S := fun i => i = a) (Only.refl _ W) ⟨a, k1, none⟩ rfl x) ⟨a, k2, none⟩ rfl y
theorem fill0 (h : Below w.heap.size w W0) (hk : W0.heap[w.heap.size]? = some (.cells #[nilV, nilV, nilV, nilV, noS, noS] 39 (0, 0))) (hp : PairW W0 W1 p m q v vd most W) :
    FillW w 1 ((W.drew.setCell ⟨w.heap.size, 0, none⟩ (ptrV p)).setCell ⟨w.heap.size, 2, none⟩ (ptrV q)) := by
  have hlt := lt_of_block hk
  have hb : Below W0.heap.size W0 W := hp.b1.trans (hp.b2.mono hp.b1.size)
  have hk2 : W.drew.heap[w.heap.size]? = some (.cells #[nilV, nilV, nilV, nilV, noS, noS] 39 (0, 0)) := (hb.block _ hlt).trans hk
  have hbw : Below w.heap.size w W.drew := h.trans (hb.drew.mono h.size)
  refine ⟨(hbw.setCell (Nat.le_refl _) _).setCell (Nat.le_refl _) _, .inr (.inl ⟨rfl, prOf p m q v vd most, setCell_block (setCell_block hk2 0 _) 2 _, ?_⟩)⟩
  refine ⟨(PrW.below (hp.pr h.size) ((Below.refl _ W).drew)).only (only_wp2 _ _ _ _ _ _) (fun k hA e => ?_), hp.self, hp.cq, fun k hA => ?_⟩
  · have := hp.all k hA; omega
  · have := hp.all k hA; omega
theorem fill1 (h : Below w.heap.size w W0) {X0 : Pr} (hk : W0.heap[w.heap.size]? = some (.cells #[ptrV X0.p, nilV, ptrV X0.q, nilV, noS, noS] 39 (0, 0))) (ho : OneW w X0 W0) (hp : PairW W0 W1 p m q v vd most W) :
    FillW w 2 ((W.drew.setCell ⟨w.heap.size, 1, none⟩ (ptrV p)).setCell ⟨w.heap.size, 3, none⟩ (ptrV q)) := by
  have hlt := lt_of_block hk
  have hb : Below W0.heap.size W0 W := hp.b1.trans (hp.b2.mono hp.b1.size)
  have hk2 : W.drew.heap[w.heap.size]? = some (.cells #[ptrV X0.p, nilV, ptrV X0.q, nilV, noS, noS] 39 (0, 0)) := (hb.block _ hlt).trans hk
  have hbw : Below w.heap.size w W.drew := h.trans (hb.drew.mono h.size)
  have a0 : ∀ k, X0.All k → k < W0.heap.size := ho.pr.lt
  have p0 : PrW w.heap.size 100 X0 ((W.drew.setCell ⟨w.heap.size, 1, none⟩ (ptrV p)).setCell ⟨w.heap.size, 3, none⟩ (ptrV q)) := ((ho.pr.below hb).below ((Below.refl _ W).drew)).only (only_wp2 _ _ _ _ _ _) (fun k hA e => by have := ho.far k hA; omega)
  have p1 : PrW w.heap.size 100 (prOf p m q v vd most) ((W.drew.setCell ⟨w.heap.size, 1, none⟩ (ptrV p)).setCell ⟨w.heap.size, 3, none⟩ (ptrV q)) := (PrW.below (hp.pr h.size) ((Below.refl _ W).drew)).only (only_wp2 _ _ _ _ _ _) (fun k hA e => by have := hp.all k hA; omega)
  refine ⟨(hbw.setCell (Nat.le_refl _) _).setCell (Nat.le_refl _) _, .inr (.inr ⟨rfl, fun b => cond b (prOf p m q v vd most) X0, ⟨⟨setCell_block (setCell_block hk2 1 _) 3 _, World.ownsRow_nil _ _ _ _, World.ownsRow_nil _ _ _ _, Nat.le_refl _⟩, ?_, fun k hk => ?_⟩⟩)⟩
  · refine PrsW.two p0 p1 (fun k h1 h2 => ?_) (fun k h1 h2 => ?_) ho.self hp.self ho.cq hp.cq
    · have := a0 k (.inl h1); have := hp.all k h2; omega
    · have := a0 k h2; have := hp.all k (.inl h1); omega
  · rcases hk with rfl | hk | hk
    · refine ⟨fun c hA => ?_, (fun Y hY => by cases hY)⟩
      cases c
      · have := ho.far _ hA; omega
      · have := hp.all _ hA; omega
    · cases hk
    · cases hk
end

set_option maxRecDepth 100000 in
set_option maxHeartbeats 32000000 in
theorem play_any (most : Int) (A3 : Option Addr) (n3 c3 : Nat) (w : World) (h3 : OpsW w A3 n3) :
    Calls Try.prog 4 #[.int .i64 most, .slice A3 n3 c3] w (KnownPost w) := by
  have HKN := hide (fun W => known_any W)
  have H3 := hide h3
  have HW0 : Hid (w.heap.size ≤ w.heap.size) := hide (Nat.le_refl _)
  have HF0 : Hid (FillW w 0 (w.alloc (.cells #[.pointer none, .pointer none, .pointer none, .pointer none, .slice none 0 0, .slice none 0 0] 39))) := hide ⟨(Below.refl _ _).alloc (Nat.le_refl _) _, .inl ⟨rfl, heap_alloc_new w _⟩⟩
  clear h3
  by_cases hm : most < 0 ∨ 1048576 < most
  · have HNW := hide (fun W => new_bad most W hm)
    have HDN := hide (fun W => docNew_any most W)
    have HM := hide hm
    clear hm
    go_enter Try.func4, Try.ntmps4
    go_wp2_with fail
    generalize w.alloc (.cells #[.pointer none, .pointer none, .pointer none, .pointer none, .slice none 0 0, .slice none 0 0] 39) = w1 at *
    have HB1 := hide HF0.out.1
    clear HF0
    go_loopw [6] (fun iv W => iv = .int .i64 0 ∧ w1 = W) (fun iv _ => 2 - (intOf iv).toNat)
    case atStart => exact ⟨rfl, rfl⟩
    case round =>
      obtain ⟨rfl, rfl⟩ := hrel
      go_wp2_with fail
      refine (HNW.out _).mono ?_
      rintro _ _ ⟨rfl, rfl⟩
      go_wp2_with fail
      refine (HDN.out _).mono ?_
      rintro _ _ (⟨_, rfl, rfl⟩ | ⟨h0, _⟩)
      case inr => exact absurd HM.out h0
      go_wp2_with fail
      refine (HKN.out _).mono ?_
      rintro _ w9 ⟨rfl, hb9⟩
      have HB9 : Hid (Below w.heap.size w w9) := hide (HB1.out.trans (hb9.mono HB1.out.size))
      go_wp2_with fail
      go_ret
      exact ⟨rfl, HB9.out⟩
  have hm0 : 0 ≤ most := by omega
  have hm1 : most ≤ 1048576 := by omega
  have HNW := hide (fun W => new_any most W hm0 hm1)
  have HDN := hide (fun W => docNew_any most W)
  have HM := hide hm
  clear hm hm0 hm1
  go_enter Try.func4, Try.ntmps4
  go_wp2_with fail
  generalize w.alloc (.cells #[.pointer none, .pointer none, .pointer none, .pointer none, .slice none 0 0, .slice none 0 0] 39) = w1 at *
  go_loopw [6] (fun iv W => ∃ k : Nat, k ≤ 2 ∧ iv = .int .i64 k ∧ FillW w k W) (fun iv _ => 2 - (intOf iv).toNat)
  case atStart => exact ⟨0, by omega, rfl, HF0.out⟩
  case round =>
    rename World => wf
    clear HF0
    obtain ⟨k, hk, rfl, hf⟩ := hrel
    obtain ⟨hb, hf⟩ := hf
    have HBK := hide hb
    clear hb
    rcases hf with ⟨rfl, hblk⟩ | ⟨rfl, X0, hblk, hone⟩ | ⟨rfl, X, hst⟩
    · have HFN : Hid (∀ (p m q : Nat) (v vd : Value) (W1 W : World), PairW wf W1 p m q v vd most W → FillW w 1 ((W.drew.setCell ⟨w.heap.size, 0, none⟩ (ptrV p)).setCell ⟨w.heap.size, 2, none⟩ (ptrV q))) := hide (fun p m q v vd W1 W hp => fill0 HBK.out hblk hp)
      have HBL := hide hblk
      clear hblk hk
      go_wp2_with fail
      refine (HNW.out _).mono ?_
      rintro _ wa ⟨p, v, m, rfl, hnt, hb1⟩
      have HNT := hide hnt
      have HB1 := hide hb1
      clear hnt hb1
      go_wp2_with fail
      refine (HDN.out _).mono ?_
      rintro _ wb (⟨h0, _⟩ | ⟨_, q, vd, rfl, hdt, hb2⟩)
      · exact absurd h0 HM.out
      have HF := hide (HFN.out p m q v vd wa wb ⟨HNT.out, hdt, HB1.out, hb2⟩)
      have HBB : Hid (wb.drew.heap[w.heap.size]? = some (.cells #[nilV, nilV, nilV, nilV, noS, noS] 39 (0, 0))) := hide ((hb2.block _ (Nat.lt_of_lt_of_le (lt_of_block HBL.out) HB1.out.size)).trans ((HB1.out.block _ (lt_of_block HBL.out)).trans HBL.out))
      clear hdt hb2
      simp only [ptrV] at HF
      go_wp2_with fail
      refine wp_region_U 14 (fun _ => True) (by kernel_rfl) trivial (fun hHeld => ?_)
      refine AnyU.take (i := 0) (v := ?v101) rfl (by kernel_rfl) (by kernel_rfl) (by kernel_rfl) (by kernel_rfl) (fun _ _ _ h => h) (Or.inl ⟨by rfl, ?hy101⟩) hHeld ?r101
      case hy101 => (intro w hSw; (try dsimp only at hSw); go_simp <;> with_reducible rfl)
      simp only [Act.put, List.setIfInBounds_toArray, List.set_cons_zero, List.set_cons_succ]
      refine AnyU.take (i := 1) (v := ?v102) rfl (by kernel_rfl) (by kernel_rfl) (by kernel_rfl) (by kernel_rfl) (fun _ _ _ h => h) (Or.inl ⟨by rfl, ?hy102⟩) hHeld ?r102
      case hy102 => (intro w hSw; (try dsimp only at hSw); go_simp <;> with_reducible rfl)
      simp only [Act.put, List.setIfInBounds_toArray, List.set_cons_zero, List.set_cons_succ]
      refine AnyU.take (i := 2) (v := ?v103) rfl (by kernel_rfl) (by kernel_rfl) (by kernel_rfl) (by kernel_rfl) (fun _ _ _ h => h) (Or.inl ⟨by rfl, ?hy103⟩) hHeld ?r103
      case hy103 => (intro w hSw; (try dsimp only at hSw); go_simp <;> with_reducible rfl)
      simp only [Act.put, List.setIfInBounds_toArray, List.set_cons_zero, List.set_cons_succ]
      refine AnyU.take (i := 3) (v := ?v104) rfl (by kernel_rfl) (by kernel_rfl) (by kernel_rfl) (by kernel_rfl) (fun _ _ _ h => h) (Or.inl ⟨by rfl, ?hy104⟩) hHeld ?r104
      case hy104 => (intro w hSw; (try dsimp only at hSw); go_simp <;> with_reducible rfl)
      simp only [Act.put, List.setIfInBounds_toArray, List.set_cons_zero, List.set_cons_succ]
      refine AnyU.take (i := 4) (v := ?v105) rfl (by kernel_rfl) (by kernel_rfl) (by kernel_rfl) (by kernel_rfl) (fun _ _ _ h => h) (Or.inl ⟨by rfl, ?hy105⟩) hHeld ?r105
      case hy105 => (intro w hSw; (try dsimp only at hSw); go_simp <;> with_reducible rfl)
      simp only [Act.put, List.setIfInBounds_toArray, List.set_cons_zero, List.set_cons_succ]
      refine AnyU.take (i := 5) (v := ?v106) rfl (by kernel_rfl) (by kernel_rfl) (by kernel_rfl) (by kernel_rfl) (fun _ _ _ h => h) (Or.inl ⟨by rfl, ?hy106⟩) hHeld ?r106
      case hy106 => (intro w hSw; (try dsimp only at hSw); go_simp <;> with_reducible rfl)
      simp only [Act.put, List.setIfInBounds_toArray, List.set_cons_zero, List.set_cons_succ]
      refine AnyU.take (i := 6) (v := ?v107) rfl (by kernel_rfl) (by kernel_rfl) (by kernel_rfl) (by kernel_rfl) (fun _ _ _ h => h) (Or.inl ⟨by rfl, ?hy107⟩) hHeld ?r107
      case hy107 => (intro w hSw; (try dsimp only at hSw); go_simp <;> with_reducible rfl)
      simp only [Act.put, List.setIfInBounds_toArray, List.set_cons_zero, List.set_cons_succ]
      refine AnyU.take (i := 7) (v := ?v108) rfl (by kernel_rfl) (by kernel_rfl) (by kernel_rfl) (by kernel_rfl) (fun _ _ _ h => h) (Or.inl ⟨by rfl, ?hy108⟩) hHeld ?r108
      case hy108 => (intro w hSw; (try dsimp only at hSw); go_simp <;> with_reducible rfl)
      simp only [Act.put, List.setIfInBounds_toArray, List.set_cons_zero, List.set_cons_succ]
      refine AnyU.take (i := 8) (v := ?v109) rfl (by kernel_rfl) (by kernel_rfl) (by kernel_rfl) (by kernel_rfl) (fun _ _ _ h => h) (Or.inl ⟨by rfl, ?hy109⟩) hHeld ?r109
      case hy109 => (intro w hSw; (try dsimp only at hSw); go_simp <;> with_reducible rfl)
      simp only [Act.put, List.setIfInBounds_toArray, List.set_cons_zero, List.set_cons_succ]
      refine AnyU.take (i := 10) (v := ?v110) rfl (by kernel_rfl) (by kernel_rfl) (by kernel_rfl) (by kernel_rfl) (fun _ _ _ h => h) (Or.inl ⟨by rfl, ?hy110⟩) hHeld ?r110
      case hy110 => (intro w hSw; (try dsimp only at hSw); go_simp <;> with_reducible rfl)
      simp only [Act.put, List.setIfInBounds_toArray, List.set_cons_zero, List.set_cons_succ]
      refine AnyU.take (i := 11) (v := ?v111) rfl (by kernel_rfl) (by kernel_rfl) (by kernel_rfl) (by kernel_rfl) (fun _ _ _ h => h) (Or.inl ⟨by rfl, ?hy111⟩) hHeld ?r111
      case hy111 => (intro w hSw; (try dsimp only at hSw); go_simp <;> with_reducible rfl)
      simp only [Act.put, List.setIfInBounds_toArray, List.set_cons_zero, List.set_cons_succ]
      clear hHeld
      have g1 := cell_of_row wb.drew w.heap.size 0 _ _ (0, 0) HBB.out
      have f1 := frozen_of_row wb.drew w.heap.size 0 _ _ HBB.out
      simp only [List.getElem?_toArray, List.getElem?_cons_zero, List.getElem?_cons_succ, nilV] at g1
      refine AnyU.next (js := [9]) (by kernel_rfl) (by simp) (NextU.cons rfl (fun K hK => ?_) NextU.nil)
      go_simp
      refine hK.out _ _ (fun _ => trivial) (fun hHeld => ?_)
      try simp only [Act.put, List.setIfInBounds_toArray, List.set_cons_zero, List.set_cons_succ]
      clear hK K
      have hHeld := hHeld (by decide)
      clear g1 f1
      refine AnyU.take (i := 12) (v := ?v112) rfl (by kernel_rfl) (by kernel_rfl) (by kernel_rfl) (by kernel_rfl) (fun _ _ _ h => h) (Or.inl ⟨by rfl, ?hy112⟩) hHeld ?r112
      case hy112 => (intro w hSw; (try dsimp only at hSw); go_simp <;> with_reducible rfl)
      simp only [Act.put, List.setIfInBounds_toArray, List.set_cons_zero, List.set_cons_succ]
      clear hHeld
      have g2 : wb.cell? ⟨w.heap.size, 2, none⟩ = some (.pointer none) := cell_of_row wb.drew w.heap.size 2 _ _ (0, 0) HBB.out
      have f2 : wb.frozen? ⟨w.heap.size, 2, none⟩ = false := frozen_of_row wb.drew w.heap.size 2 _ _ HBB.out
      refine AnyU.next (js := [13]) (by kernel_rfl) (by simp) (NextU.cons rfl (fun K hK => ?_) NextU.nil)
      go_simp
      refine hK.out _ _ (fun _ => trivial) (fun hHeld => ?_)
      try simp only [Act.put, List.setIfInBounds_toArray, List.set_cons_zero, List.set_cons_succ]
      clear hK K hHeld g2 f2
      refine AnyU.over (by kernel_rfl) ?_ _
      clear HBB
      have HFW : Hid (FillW w 1 ((wb.setCell ⟨w.heap.size, 0, none⟩ (.pointer (some ⟨p, 0, none⟩))).setCell ⟨w.heap.size, 2, none⟩ (.pointer (some ⟨q, 0, none⟩))).drew) := hide HF.out
      clear HF
      generalize ((wb.setCell ⟨w.heap.size, 0, none⟩ (.pointer (some ⟨p, 0, none⟩))).setCell ⟨w.heap.size, 2, none⟩ (.pointer (some ⟨q, 0, none⟩))).drew = wn at *
      go_wp2_with fail
      go_roundw
      case rel => exact ⟨1, by omega, rfl, HFW.out⟩
      case measure => simp [intOf]
    · have HFN : Hid (∀ (p m q : Nat) (v vd : Value) (W1 W : World), PairW wf W1 p m q v vd most W → FillW w 2 ((W.drew.setCell ⟨w.heap.size, 1, none⟩ (ptrV p)).setCell ⟨w.heap.size, 3, none⟩ (ptrV q))) := hide (fun p m q v vd W1 W hp => fill1 HBK.out hblk hone hp)
      have HBL := hide hblk
      clear hblk hone hk
      go_wp2_with fail
      refine (HNW.out _).mono ?_
      rintro _ wa ⟨p, v, m, rfl, hnt, hb1⟩
      have HNT := hide hnt
      have HB1 := hide hb1
      clear hnt hb1
      go_wp2_with fail
      refine (HDN.out _).mono ?_
      rintro _ wb (⟨h0, _⟩ | ⟨_, q, vd, rfl, hdt, hb2⟩)
      · exact absurd h0 HM.out
      have HF := hide (HFN.out p m q v vd wa wb ⟨HNT.out, hdt, HB1.out, hb2⟩)
      have HBB : Hid (wb.drew.heap[w.heap.size]? = some (.cells #[ptrV X0.p, nilV, ptrV X0.q, nilV, noS, noS] 39 (0, 0))) := hide ((hb2.block _ (Nat.lt_of_lt_of_le (lt_of_block HBL.out) HB1.out.size)).trans ((HB1.out.block _ (lt_of_block HBL.out)).trans HBL.out))
      clear hdt hb2
      simp only [ptrV] at HF
      go_wp2_with fail
      refine wp_region_U 14 (fun _ => True) (by kernel_rfl) trivial (fun hHeld => ?_)
      refine AnyU.take (i := 0) (v := ?v151) rfl (by kernel_rfl) (by kernel_rfl) (by kernel_rfl) (by kernel_rfl) (fun _ _ _ h => h) (Or.inl ⟨by rfl, ?hy151⟩) hHeld ?r151
      case hy151 => (intro w hSw; (try dsimp only at hSw); go_simp <;> with_reducible rfl)
      simp only [Act.put, List.setIfInBounds_toArray, List.set_cons_zero, List.set_cons_succ]
      refine AnyU.take (i := 1) (v := ?v152) rfl (by kernel_rfl) (by kernel_rfl) (by kernel_rfl) (by kernel_rfl) (fun _ _ _ h => h) (Or.inl ⟨by rfl, ?hy152⟩) hHeld ?r152
      case hy152 => (intro w hSw; (try dsimp only at hSw); go_simp <;> with_reducible rfl)
      simp only [Act.put, List.setIfInBounds_toArray, List.set_cons_zero, List.set_cons_succ]
      refine AnyU.take (i := 2) (v := ?v153) rfl (by kernel_rfl) (by kernel_rfl) (by kernel_rfl) (by kernel_rfl) (fun _ _ _ h => h) (Or.inl ⟨by rfl, ?hy153⟩) hHeld ?r153
      case hy153 => (intro w hSw; (try dsimp only at hSw); go_simp <;> with_reducible rfl)
      simp only [Act.put, List.setIfInBounds_toArray, List.set_cons_zero, List.set_cons_succ]
      refine AnyU.take (i := 3) (v := ?v154) rfl (by kernel_rfl) (by kernel_rfl) (by kernel_rfl) (by kernel_rfl) (fun _ _ _ h => h) (Or.inl ⟨by rfl, ?hy154⟩) hHeld ?r154
      case hy154 => (intro w hSw; (try dsimp only at hSw); go_simp <;> with_reducible rfl)
      simp only [Act.put, List.setIfInBounds_toArray, List.set_cons_zero, List.set_cons_succ]
      refine AnyU.take (i := 4) (v := ?v155) rfl (by kernel_rfl) (by kernel_rfl) (by kernel_rfl) (by kernel_rfl) (fun _ _ _ h => h) (Or.inl ⟨by rfl, ?hy155⟩) hHeld ?r155
      case hy155 => (intro w hSw; (try dsimp only at hSw); go_simp <;> with_reducible rfl)
      simp only [Act.put, List.setIfInBounds_toArray, List.set_cons_zero, List.set_cons_succ]
      refine AnyU.take (i := 5) (v := ?v156) rfl (by kernel_rfl) (by kernel_rfl) (by kernel_rfl) (by kernel_rfl) (fun _ _ _ h => h) (Or.inl ⟨by rfl, ?hy156⟩) hHeld ?r156
      case hy156 => (intro w hSw; (try dsimp only at hSw); go_simp <;> with_reducible rfl)
      simp only [Act.put, List.setIfInBounds_toArray, List.set_cons_zero, List.set_cons_succ]
      refine AnyU.take (i := 6) (v := ?v157) rfl (by kernel_rfl) (by kernel_rfl) (by kernel_rfl) (by kernel_rfl) (fun _ _ _ h => h) (Or.inl ⟨by rfl, ?hy157⟩) hHeld ?r157
      case hy157 => (intro w hSw; (try dsimp only at hSw); go_simp <;> with_reducible rfl)
      simp only [Act.put, List.setIfInBounds_toArray, List.set_cons_zero, List.set_cons_succ]
      refine AnyU.take (i := 7) (v := ?v158) rfl (by kernel_rfl) (by kernel_rfl) (by kernel_rfl) (by kernel_rfl) (fun _ _ _ h => h) (Or.inl ⟨by rfl, ?hy158⟩) hHeld ?r158
      case hy158 => (intro w hSw; (try dsimp only at hSw); go_simp <;> with_reducible rfl)
      simp only [Act.put, List.setIfInBounds_toArray, List.set_cons_zero, List.set_cons_succ]
      refine AnyU.take (i := 8) (v := ?v159) rfl (by kernel_rfl) (by kernel_rfl) (by kernel_rfl) (by kernel_rfl) (fun _ _ _ h => h) (Or.inl ⟨by rfl, ?hy159⟩) hHeld ?r159
      case hy159 => (intro w hSw; (try dsimp only at hSw); go_simp <;> with_reducible rfl)
      simp only [Act.put, List.setIfInBounds_toArray, List.set_cons_zero, List.set_cons_succ]
      refine AnyU.take (i := 10) (v := ?v160) rfl (by kernel_rfl) (by kernel_rfl) (by kernel_rfl) (by kernel_rfl) (fun _ _ _ h => h) (Or.inl ⟨by rfl, ?hy160⟩) hHeld ?r160
      case hy160 => (intro w hSw; (try dsimp only at hSw); go_simp <;> with_reducible rfl)
      simp only [Act.put, List.setIfInBounds_toArray, List.set_cons_zero, List.set_cons_succ]
      refine AnyU.take (i := 11) (v := ?v161) rfl (by kernel_rfl) (by kernel_rfl) (by kernel_rfl) (by kernel_rfl) (fun _ _ _ h => h) (Or.inl ⟨by rfl, ?hy161⟩) hHeld ?r161
      case hy161 => (intro w hSw; (try dsimp only at hSw); go_simp <;> with_reducible rfl)
      simp only [Act.put, List.setIfInBounds_toArray, List.set_cons_zero, List.set_cons_succ]
      clear hHeld
      have g1 := cell_of_row wb.drew w.heap.size 1 _ _ (0, 0) HBB.out
      have f1 := frozen_of_row wb.drew w.heap.size 1 _ _ HBB.out
      simp only [List.getElem?_toArray, List.getElem?_cons_zero, List.getElem?_cons_succ, nilV] at g1
      refine AnyU.next (js := [9]) (by kernel_rfl) (by simp) (NextU.cons rfl (fun K hK => ?_) NextU.nil)
      go_simp
      refine hK.out _ _ (fun _ => trivial) (fun hHeld => ?_)
      try simp only [Act.put, List.setIfInBounds_toArray, List.set_cons_zero, List.set_cons_succ]
      clear hK K
      have hHeld := hHeld (by decide)
      clear g1 f1
      refine AnyU.take (i := 12) (v := ?v162) rfl (by kernel_rfl) (by kernel_rfl) (by kernel_rfl) (by kernel_rfl) (fun _ _ _ h => h) (Or.inl ⟨by rfl, ?hy162⟩) hHeld ?r162
      case hy162 => (intro w hSw; (try dsimp only at hSw); go_simp <;> with_reducible rfl)
      simp only [Act.put, List.setIfInBounds_toArray, List.set_cons_zero, List.set_cons_succ]
      clear hHeld
      have g2 : wb.cell? ⟨w.heap.size, 3, none⟩ = some (.pointer none) := cell_of_row wb.drew w.heap.size 3 _ _ (0, 0) HBB.out
      have f2 : wb.frozen? ⟨w.heap.size, 3, none⟩ = false := frozen_of_row wb.drew w.heap.size 3 _ _ HBB.out
      refine AnyU.next (js := [13]) (by kernel_rfl) (by simp) (NextU.cons rfl (fun K hK => ?_) NextU.nil)
      go_simp
      refine hK.out _ _ (fun _ => trivial) (fun hHeld => ?_)
      try simp only [Act.put, List.setIfInBounds_toArray, List.set_cons_zero, List.set_cons_succ]
      clear hK K hHeld g2 f2
      refine AnyU.over (by kernel_rfl) ?_ _
      clear HBB
      have HFW : Hid (FillW w 2 ((wb.setCell ⟨w.heap.size, 1, none⟩ (.pointer (some ⟨p, 0, none⟩))).setCell ⟨w.heap.size, 3, none⟩ (.pointer (some ⟨q, 0, none⟩))).drew) := hide HF.out
      clear HF
      generalize ((wb.setCell ⟨w.heap.size, 1, none⟩ (.pointer (some ⟨p, 0, none⟩))).setCell ⟨w.heap.size, 3, none⟩ (.pointer (some ⟨q, 0, none⟩))).drew = wn at *
      go_wp2_with fail
      go_roundw
      case rel => exact ⟨2, by omega, rfl, HFW.out⟩
      case measure => simp [intOf]
    · have HST : Hid (StW w.heap.size (100 + 0) w.heap.size X [] (.slice none 0 0) (.slice none 0 0) wf) := hide hst
      clear hst hk
      have e2 : ((2 : Nat) : Int) = 2 := rfl
      rw [e2]
      clear e2
      go_wp2_with fail
      go_loopw [11] (fun iv W => ∃ (k : Nat) (X : Bool → Pr) (os : List Pr) (vo vw : Value), k ≤ 150 ∧ iv = .int .i64 k ∧ StW w.heap.size (100 + k) w.heap.size X os vo vw W ∧ os.length ≤ 10 ∧ w.heap.size ≤ W.heap.size ∧ Below w.heap.size w W) (fun iv _ => 150 - (intOf iv).toNat)
      case atStart => exact ⟨0, X, [], _, _, Nat.zero_le _, rfl, HST.out, by simp, HBK.out.size, HBK.out⟩
      case round =>
        rename World => wk
        clear HST HBK
        obtain ⟨k, X, os, vo, vw, hk, rfl, hst, hos, hwz, hb⟩ := hrel
        have HK := hide hk
        have HST := hide hst
        have HOS := hide hos
        have HWZ := hide hwz
        have HBK := hide hb
        clear hst hos hwz hb hk
        have hk0 : (0 : Int) ≤ (k : Int) := by omega
        have hk9 : (k : Int) ≤ 150 := by have := HK.out; omega
        go_upto_region 13 with fail
        go_cut [64] from 57 to 64 (fun z wx => z = .bool (decide (k < n3 ∧ k < 150)) ∧ wk = wx)
        case first =>
          by_cases h1 : k < n3
          · have h1' : (k : Int) < (n3 : Int) := by omega
            by_cases h2 : k < 150
            · have h2' : (k : Int) < 150 := by omega
              have HDC := hide (decide_eq_true (p := k < n3 ∧ k < 150) ⟨h1, h2⟩)
              clear h1 h2
              go_wp2_with fail
              go_meet
              exact ⟨congrArg Value.bool HDC.out.symm, rfl⟩
            · have h2' : ¬ (k : Int) < 150 := by omega
              have HDC := hide (decide_eq_false (p := k < n3 ∧ k < 150) (fun h => h2 h.2))
              clear h1 h2
              go_wp2_with fail
              go_meet
              exact ⟨congrArg Value.bool HDC.out.symm, rfl⟩
          · have h1' : ¬ (k : Int) < (n3 : Int) := by omega
            have HDC := hide (decide_eq_false (p := k < n3 ∧ k < 150) (fun h => h1 h.1))
            clear h1
            go_wp2_with fail
            go_meet
            exact ⟨congrArg Value.bool HDC.out.symm, rfl⟩
        case rest =>
          obtain ⟨rfl, rfl⟩ := hcut
          by_cases hlt : k < n3 ∧ k < 150
          · have hd : decide (k < n3 ∧ k < 150) = true := decide_eq_true hlt
            rw [hd]
            have h1' : (k : Int) < (n3 : Int) := by omega
            have HLT := hide hlt.2
            obtain ⟨g3, o3, a, b, sN, d, rfl, hg3, s0, s1, s2, s3, hcb⟩ := H3.out.at_ k hlt.1
            have t0 := (HBK.out.cell (p := ⟨g3, o3 + k * 4, none⟩) hg3).trans s0
            have t1 := (HBK.out.cell (p := ⟨g3, o3 + k * 4 + 1, none⟩) hg3).trans s1
            have t2 := (HBK.out.cell (p := ⟨g3, o3 + k * 4 + 2, none⟩) hg3).trans s2
            have t3 := (HBK.out.cell (p := ⟨g3, o3 + k * 4 + 3, none⟩) hg3).trans s3
            have HSTEP : Hid (Calls Try.prog 14 #[.pointer (some ⟨w.heap.size, 0, none⟩), .agg #[.int .i64 a, .int .i64 b, .string sN, .int .i64 d]] wk (StepP w.heap.size (100 + k) w.heap.size wk)) := hide (step_any HST.out HOS.out HWZ.out a b sN d hcb)
            clear hd hlt s0 s1 s2 s3 hcb hg3
            go_wp2_with fail
            refine (HSTEP.out).mono ?_
            rintro _ ws ⟨rfl, X2, os2, vo2, vw2, hst2, hos2, hbs⟩
            have HS2 : Hid (StW w.heap.size (100 + (k + 1)) w.heap.size X2 os2 vo2 vw2 ws) := hide hst2
            have HO2 := hide hos2
            have HZ2 : Hid (w.heap.size ≤ ws.heap.size) := hide (Nat.le_trans HWZ.out hbs.size)
            have HB2s : Hid (Below w.heap.size w ws) := hide (HBK.out.trans (hbs.mono (Nat.le_refl _)))
            clear hst2 hos2 hbs t0 t1 t2 t3
            go_wp2_with fail
            go_roundw
            case rel => exact ⟨k + 1, X2, os2, vo2, vw2, HLT.out, by go_num, HS2.out, HO2.out, HZ2.out, HB2s.out⟩
            case measure => have := HLT.out; simp [intOf]; omega
          · have hd : decide (k < n3 ∧ k < 150) = false := decide_eq_false hlt
            rw [hd]
            have HEN := hide (HST.out.more (M' := 1000) (by have := HK.out; omega)).end_
            clear hd hlt HST HK
            go_wp2_with fail
            go_loopw [13] (fun iv W => ∃ (j : Nat) (prs : List Pr) (vo vw : Value), j ≤ 2 ∧ iv = .int .i64 j ∧ EndW w.heap.size 1000 w.heap.size X prs vo vw W ∧ prs.length ≤ 10 + j ∧ w.heap.size ≤ W.heap.size ∧ Below w.heap.size w W) (fun iv _ => 2 - (intOf iv).toNat)
            case atStart => exact ⟨0, os, vo, vw, Nat.zero_le _, rfl, HEN.out, HOS.out, HWZ.out, HBK.out⟩
            case round =>
              rename World => wj
              clear HEN HWZ HBK HOS
              obtain ⟨j, prs, vo, vw, hj, rfl, hen, hos, hwz, hb⟩ := hrel
              have HJ := hide hj
              have HEN := hide hen
              have HOS := hide hos
              have HWZ := hide hwz
              have HBK := hide hb
              obtain ⟨A4, c4, hvo⟩ := own_shape hen.rows.ro
              rw [List.length_map] at hvo
              subst hvo
              obtain ⟨A5, c5, hvw⟩ := own_shape hen.rows.rq
              rw [List.length_map] at hvw
              subst hvw
              clear hen hos hwz hb hj
              by_cases hj2 : j < 2
              · have hj3 : (j : Int) < 2 := by omega
                have hj0 : (0 : Int) ≤ (j : Int) := by omega
                have HJ2 := hide hj2
                obtain ⟨Y, hY⟩ : ∃ Y, Y = X (decide (j = 1)) := ⟨_, rfl⟩
                have HY := hide hY
                have hat := HEN.out.rows.at_ hj2
                rw [← hY] at hat
                obtain ⟨cT, cR⟩ := hat
                simp only [ptrV] at cT cR
                have w4 : wj.cell? ⟨w.heap.size, 4, none⟩ = some (.slice A4 prs.length c4) := cell_of_row wj w.heap.size 4 _ _ (0, 0) HEN.out.rows.blk
                have hro := HEN.out.rows.ro
                rw [List.length_map, List.map_map] at hro
                have HPN := hide (ptr_new wj.drew Y.p 32)
                have HRO := hide (own_below (w := wj.drew) hro HPN.out.1 (Nat.le_refl _))
                have HRW := hide (RowsW.below (W := wj.drew) (HEN.out.below ((Below.refl _ wj).drew)).rows HPN.out.1)
                have G1 : Hid (∀ u ∈ [ptrV Y.p], u.oneCell' = true) := hide (ptr_one _)
                have G2 : Hid (prs.length + 1 ≤ maxLen) := hide (by unfold maxLen; have := HOS.out; omega)
                have G3 : Hid ((prs.length + 1) * 8 ≤ 140737488355328) := hide (by have := HOS.out; omega)
                have G4 : Hid (w.heap.size ≤ (wj.drew.alloc (.cells #[ptrV Y.p] 32)).heap.size) := hide (Nat.le_trans HWZ.out HPN.out.1.size)
                obtain ⟨P, hP⟩ : ∃ P : World → Prop, P = fun W => W.cell? ⟨w.heap.size, 4, none⟩ = some (.slice A4 prs.length c4) ∧ W.cell? ⟨w.heap.size, j, none⟩ = some (.pointer (some ⟨Y.p, 0, none⟩)) := ⟨_, rfl⟩
                have hP0 : P wj.drew := by rw [hP]; exact ⟨w4, cT⟩
                have HPA := hide (show P (wj.drew.alloc (.cells #[ptrV Y.p] 32)) from by rw [hP]; exact ⟨(HPN.out.1.cell (lt_of_cell w4)).trans w4, (HPN.out.1.cell (lt_of_cell cT)).trans cT⟩)
                have HPE := hide hP
                clear hro w4 cT hY
                go_wp2_with fail
                refine wp_region_U 15 P (by kernel_rfl) hP0 (fun hHeld => ?_)
                refine AnyU.take (i := 0) (v := ?v5001) rfl (by kernel_rfl) (by kernel_rfl) (by kernel_rfl) (by kernel_rfl) (fun _ _ _ h => h) (Or.inl ⟨by rfl, ?hy5001⟩) hHeld ?r5001
                case hy5001 => (intro w hSw; (try dsimp only at hSw); rw [hP] at hSw; obtain ⟨z0, z1⟩ := hSw; go_simp <;> with_reducible rfl)
                simp only [Act.put, List.setIfInBounds_toArray, List.set_cons_zero, List.set_cons_succ]
                refine AnyU.take (i := 1) (v := ?v5002) rfl (by kernel_rfl) (by kernel_rfl) (by kernel_rfl) (by kernel_rfl) (fun _ _ _ h => h) (Or.inl ⟨by rfl, ?hy5002⟩) hHeld ?r5002
                case hy5002 => (intro w hSw; (try dsimp only at hSw); rw [hP] at hSw; obtain ⟨z0, z1⟩ := hSw; go_simp <;> with_reducible rfl)
                simp only [Act.put, List.setIfInBounds_toArray, List.set_cons_zero, List.set_cons_succ]
                refine AnyU.take (i := 2) (v := ?v5003) rfl (by kernel_rfl) (by kernel_rfl) (by kernel_rfl) (by kernel_rfl) (fun _ _ _ h => h) (Or.inl ⟨by rfl, ?hy5003⟩) hHeld ?r5003
                case hy5003 => (intro w hSw; (try dsimp only at hSw); rw [hP] at hSw; obtain ⟨z0, z1⟩ := hSw; go_simp <;> with_reducible rfl)
                simp only [Act.put, List.setIfInBounds_toArray, List.set_cons_zero, List.set_cons_succ]
                refine AnyU.take (i := 3) (v := ?v5004) rfl (by kernel_rfl) (by kernel_rfl) (by kernel_rfl) (by kernel_rfl) (fun _ _ _ h => h) (Or.inl ⟨by rfl, ?hy5004⟩) hHeld ?r5004
                case hy5004 => (intro w hSw; (try dsimp only at hSw); rw [hP] at hSw; obtain ⟨z0, z1⟩ := hSw; go_simp <;> with_reducible rfl)
                simp only [Act.put, List.setIfInBounds_toArray, List.set_cons_zero, List.set_cons_succ]
                refine AnyU.take (i := 4) (v := ?v5005) rfl (by kernel_rfl) (by kernel_rfl) (by kernel_rfl) (by kernel_rfl) (fun _ _ _ h => h) (Or.inl ⟨by rfl, ?hy5005⟩) hHeld ?r5005
                case hy5005 => (intro w hSw; (try dsimp only at hSw); rw [hP] at hSw; obtain ⟨z0, z1⟩ := hSw; go_simp <;> with_reducible rfl)
                simp only [Act.put, List.setIfInBounds_toArray, List.set_cons_zero, List.set_cons_succ]
                refine AnyU.take (i := 5) (v := ?v5006) rfl (by kernel_rfl) (by kernel_rfl) (by kernel_rfl) (by kernel_rfl) (fun _ _ _ h => h) (Or.inl ⟨by rfl, ?hy5006⟩) hHeld ?r5006
                case hy5006 => (intro w hSw; (try dsimp only at hSw); rw [hP] at hSw; obtain ⟨z0, z1⟩ := hSw; go_simp <;> with_reducible rfl)
                simp only [Act.put, List.setIfInBounds_toArray, List.set_cons_zero, List.set_cons_succ]
                refine AnyU.take (i := 6) (v := ?v5007) rfl (by kernel_rfl) (by kernel_rfl) (by kernel_rfl) (by kernel_rfl) (fun _ _ _ h => h) (Or.inl ⟨by rfl, ?hy5007⟩) hHeld ?r5007
                case hy5007 => (intro w hSw; (try dsimp only at hSw); rw [hP] at hSw; obtain ⟨z0, z1⟩ := hSw; go_simp <;> with_reducible rfl)
                simp only [Act.put, List.setIfInBounds_toArray, List.set_cons_zero, List.set_cons_succ]
                refine AnyU.take (i := 7) (v := ?v5008) rfl (by kernel_rfl) (by kernel_rfl) (by kernel_rfl) (by kernel_rfl) (fun _ _ _ h => h) (Or.inl ⟨by rfl, ?hy5008⟩) hHeld ?r5008
                case hy5008 => (intro w hSw; (try dsimp only at hSw); rw [hP] at hSw; obtain ⟨z0, z1⟩ := hSw; go_simp <;> with_reducible rfl)
                simp only [Act.put, List.setIfInBounds_toArray, List.set_cons_zero, List.set_cons_succ]
                refine AnyU.take (i := 8) (v := ?v5009) rfl (by kernel_rfl) (by kernel_rfl) (by kernel_rfl) (by kernel_rfl) (fun _ _ _ h => h) (Or.inl ⟨by rfl, ?hy5009⟩) hHeld ?r5009
                case hy5009 => (intro w hSw; (try dsimp only at hSw); rw [hP] at hSw; obtain ⟨z0, z1⟩ := hSw; go_simp <;> with_reducible rfl)
                simp only [Act.put, List.setIfInBounds_toArray, List.set_cons_zero, List.set_cons_succ]
                refine AnyU.take (i := 9) (v := ?v5010) rfl (by kernel_rfl) (by kernel_rfl) (by kernel_rfl) (by kernel_rfl) (fun _ _ _ h => h) (Or.inl ⟨by rfl, ?hy5010⟩) hHeld ?r5010
                case hy5010 => (intro w hSw; (try dsimp only at hSw); rw [hP] at hSw; obtain ⟨z0, z1⟩ := hSw; go_simp <;> with_reducible rfl)
                simp only [Act.put, List.setIfInBounds_toArray, List.set_cons_zero, List.set_cons_succ]
                refine AnyU.take (i := 10) (v := ?v5011) rfl (by kernel_rfl) (by kernel_rfl) (by kernel_rfl) (by kernel_rfl) (fun _ _ _ h => h) (Or.inl ⟨by rfl, ?hy5011⟩) hHeld ?r5011
                case hy5011 => (intro w hSw; (try dsimp only at hSw); rw [hP] at hSw; obtain ⟨z0, z1⟩ := hSw; go_simp <;> with_reducible rfl)
                simp only [Act.put, List.setIfInBounds_toArray, List.set_cons_zero, List.set_cons_succ]
                clear hHeld
                refine AnyU.next (js := [11]) (by kernel_rfl) (by simp) (NextU.cons rfl (fun K hK => ?_) NextU.nil)
                go_simp
                refine hK.out _ _ (fun _ => HPA.out) (fun hHeld => ?_)
                try simp only [Act.put, List.setIfInBounds_toArray, List.set_cons_zero, List.set_cons_succ]
                clear hK K hHeld
                refine AnyU.next (js := [12]) (by kernel_rfl) (by simp) (NextU.cons rfl (fun K hK => ?_) NextU.nil)
                refine step_append_any rfl (.tmp 83) (.tmp 90) 36 rfl w.heap.size 32 (.pointer none) 1 8 infoPN Try.underlying36 rfl (by decide) _ prs.length (prs.map (ptrV ∘ Pr.p)) rfl HRO.out (wj.drew.alloc (.cells #[ptrV Y.p] 32)).heap.size (some ⟨wj.drew.heap.size, 0, none⟩) 1 1 [ptrV Y.p] rfl HPN.out.2 G1.out G2.out G3.out G4.out ?_
                intro v6 W6 hown hg hat
                have HQ := hide (HRW.out.push_o (v' := v6) (W2 := W6) (p := Y.p) (by rw [List.length_map, List.map_map]; exact hown) hg hat)
                obtain ⟨A6, c6, rfl⟩ := own_shape hown
                have HP6 : Hid (P W6) := hide (by
                  have hra := HEN.out.rows.at_ HJ2.out
                  rw [← HY.out] at hra
                  rw [HPE.out]
                  have hr6 : RowsW w.heap.size w.heap.size (X false).p (X true).p (X false).q (X true).q [] [] (.slice none 0 0) (.slice none 0 0) wj → True := fun _ => trivial
                  refine ⟨cell_of_row W6 w.heap.size 4 _ _ (0, 0) HQ.out.1, ?_⟩
                  rw [HY.out]
                  have hjj : j = 0 ∨ j = 1 := by have := HJ2.out; omega
                  rcases hjj with rfl | rfl
                  · exact cell_of_row W6 w.heap.size 0 _ _ (0, 0) HQ.out.1
                  · exact cell_of_row W6 w.heap.size 1 _ _ (0, 0) HQ.out.1)
                clear hown hg hat
                refine hK.out _ _ (fun _ => HP6.out) (fun hHeld => ?_)
                try simp only [Act.put, List.setIfInBounds_toArray, List.set_cons_zero, List.set_cons_succ]
                clear hK K hHeld
                refine AnyU.next (js := [13]) (by kernel_rfl) (by simp) (NextU.cons rfl (fun K hK => ?_) NextU.nil)
                go_simp
                refine hK.out _ _ (fun _ => HP6.out) (fun hHeld => ?_)
                try simp only [Act.put, List.setIfInBounds_toArray, List.set_cons_zero, List.set_cons_succ]
                clear hK K hHeld
                refine AnyU.next (js := [14]) (by kernel_rfl) (by simp) (NextU.cons rfl (fun K hK => ?_) NextU.nil)
                go_simp
                refine hK.out _ _ (fun _ => HP6.out) (fun hHeld => ?_)
                try simp only [Act.put, List.setIfInBounds_toArray, List.set_cons_zero, List.set_cons_succ]
                clear hK K hHeld
                have g4 := cell_of_row W6 w.heap.size 4 _ _ (0, 0) HQ.out.1
                have f4 := frozen_of_row W6 w.heap.size 4 _ _ HQ.out.1
                simp only [List.getElem?_toArray, List.getElem?_cons_zero, List.getElem?_cons_succ] at g4
                refine AnyU.next (js := [15]) (by kernel_rfl) (by simp) (NextU.cons rfl (fun K hK => ?_) NextU.nil)
                go_simp
                refine hK.out _ _ (fun h => absurd h (by decide)) (fun hHeld => ?_)
                try simp only [Act.put, List.setIfInBounds_toArray, List.set_cons_zero, List.set_cons_succ]
                clear hK K hHeld
                clear g4 f4
                refine AnyU.over (by kernel_rfl) ?_ _
                have HR7 : Hid (RowsW w.heap.size w.heap.size (X false).p (X true).p (X false).q (X true).q (prs.map Pr.p ++ [Y.p]) (prs.map Pr.q) (.slice A6 (prs.length + 1) c6) (.slice A5 prs.length c5) (W6.setCell ⟨w.heap.size, 4, none⟩ (.slice A6 (prs.length + 1) c6))) := hide HQ.out.2.1
                have HBd : Hid (Below wj.heap.size wj (wj.drew.alloc (.cells #[ptrV Y.p] 32))) := hide (((Below.refl _ wj).drew).trans HPN.out.1)
                have HC7 : Hid ((∀ b, PrW w.heap.size 1000 (X b) (W6.setCell ⟨w.heap.size, 4, none⟩ (.slice A6 (prs.length + 1) c6))) ∧ (∀ Z ∈ prs, PrW w.heap.size 1000 Z (W6.setCell ⟨w.heap.size, 4, none⟩ (.slice A6 (prs.length + 1) c6)))) := hide ⟨fun b => ((HEN.out.cur b).below HBd.out).only HQ.out.2.2.1 (fun i hi ho => (HEN.out.own i ho).1 b hi), fun Z hZ => ((HEN.out.each Z hZ).below HBd.out).only HQ.out.2.2.1 (fun i hi ho => (HEN.out.own i ho).2 Z hZ hi)⟩
                have HO7 : Hid (∀ i, OwW w.heap.size (.slice A6 (prs.length + 1) c6) (.slice A5 prs.length c5) i → (∀ b, ¬ (X b).All i) ∧ ∀ Z ∈ prs, ¬ Z.All i) := hide (fun i hi => by
                  rcases HQ.out.2.2.2 i hi with e | e
                  · exact HEN.out.own i e
                  · have hz : wj.heap.size ≤ (wj.drew.alloc (.cells #[ptrV Y.p] 32)).heap.size := HBd.out.size
                    exact ⟨fun b hA => by have := (HEN.out.cur b).lt i hA; omega, fun Z hZ hA => by have := (HEN.out.each Z hZ).lt i hA; omega⟩)
                have HB7 : Hid (Below w.heap.size w (W6.setCell ⟨w.heap.size, 4, none⟩ (.slice A6 (prs.length + 1) c6))) := hide (HBK.out.trans ((HBd.out.mono HBK.out.size).trans ((HQ.out.2.2.1.below G4.out (fun i hi => (HEN.out.rows.lt i hi).1)).mono (Nat.le_refl _))))
                have HZ7 : Hid (w.heap.size ≤ (W6.setCell ⟨w.heap.size, 4, none⟩ (.slice A6 (prs.length + 1) c6)).heap.size) := hide (Nat.le_trans G4.out HQ.out.2.2.1.size)
                clear HQ HPN HRO HRW HP6 HPA HPE hP hP0 HBd cR
                generalize W6.setCell ⟨w.heap.size, 4, none⟩ (.slice A6 (prs.length + 1) c6) = w7 at *
                have hat := HR7.out.at_ HJ2.out
                rw [← HY.out] at hat
                obtain ⟨_, cR⟩ := hat
                simp only [ptrV] at cR
                have w5 : w7.cell? ⟨w.heap.size, 5, none⟩ = some (.slice A5 prs.length c5) := cell_of_row w7 w.heap.size 5 _ _ (0, 0) HR7.out.blk
                have hrq := HR7.out.rq
                rw [List.length_map, List.map_map] at hrq
                have HPN := hide (ptr_new w7.drew Y.q 34)
                have HRQ := hide (own_below (w := w7.drew) hrq HPN.out.1 (Nat.le_refl _))
                have HRW := hide ((HR7.out.below ((Below.refl _ w7).drew)).below HPN.out.1)
                have K1 : Hid (∀ u ∈ [ptrV Y.q], u.oneCell' = true) := hide (ptr_one _)
                have K4 : Hid (w.heap.size ≤ (w7.drew.alloc (.cells #[ptrV Y.q] 34)).heap.size) := hide (Nat.le_trans HZ7.out HPN.out.1.size)
                obtain ⟨P, hP⟩ : ∃ P : World → Prop, P = fun W => W.cell? ⟨w.heap.size, 5, none⟩ = some (.slice A5 prs.length c5) ∧ W.cell? ⟨w.heap.size, 2 + j, none⟩ = some (.pointer (some ⟨Y.q, 0, none⟩)) := ⟨_, rfl⟩
                have hP0 : P w7.drew := by rw [hP]; exact ⟨w5, cR⟩
                have HPA := hide (show P (w7.drew.alloc (.cells #[ptrV Y.q] 34)) from by rw [hP]; exact ⟨(HPN.out.1.cell (lt_of_cell w5)).trans w5, (HPN.out.1.cell (lt_of_cell cR)).trans cR⟩)
                have HPE := hide hP
                clear hrq w5 cR
                go_wp2_with fail
                refine wp_region_U 15 P (by kernel_rfl) hP0 (fun hHeld => ?_)
                refine AnyU.take (i := 0) (v := ?v5101) rfl (by kernel_rfl) (by kernel_rfl) (by kernel_rfl) (by kernel_rfl) (fun _ _ _ h => h) (Or.inl ⟨by rfl, ?hy5101⟩) hHeld ?r5101
                case hy5101 => (intro w hSw; (try dsimp only at hSw); rw [hP] at hSw; obtain ⟨z0, z1⟩ := hSw; go_simp <;> with_reducible rfl)
                simp only [Act.put, List.setIfInBounds_toArray, List.set_cons_zero, List.set_cons_succ]
                refine AnyU.take (i := 1) (v := ?v5102) rfl (by kernel_rfl) (by kernel_rfl) (by kernel_rfl) (by kernel_rfl) (fun _ _ _ h => h) (Or.inl ⟨by rfl, ?hy5102⟩) hHeld ?r5102
                case hy5102 => (intro w hSw; (try dsimp only at hSw); rw [hP] at hSw; obtain ⟨z0, z1⟩ := hSw; go_simp <;> with_reducible rfl)
                simp only [Act.put, List.setIfInBounds_toArray, List.set_cons_zero, List.set_cons_succ]
                refine AnyU.take (i := 2) (v := ?v5103) rfl (by kernel_rfl) (by kernel_rfl) (by kernel_rfl) (by kernel_rfl) (fun _ _ _ h => h) (Or.inl ⟨by rfl, ?hy5103⟩) hHeld ?r5103
                case hy5103 => (intro w hSw; (try dsimp only at hSw); rw [hP] at hSw; obtain ⟨z0, z1⟩ := hSw; go_simp <;> with_reducible rfl)
                simp only [Act.put, List.setIfInBounds_toArray, List.set_cons_zero, List.set_cons_succ]
                refine AnyU.take (i := 3) (v := ?v5104) rfl (by kernel_rfl) (by kernel_rfl) (by kernel_rfl) (by kernel_rfl) (fun _ _ _ h => h) (Or.inl ⟨by rfl, ?hy5104⟩) hHeld ?r5104
                case hy5104 => (intro w hSw; (try dsimp only at hSw); rw [hP] at hSw; obtain ⟨z0, z1⟩ := hSw; go_simp <;> with_reducible rfl)
                simp only [Act.put, List.setIfInBounds_toArray, List.set_cons_zero, List.set_cons_succ]
                refine AnyU.take (i := 4) (v := ?v5105) rfl (by kernel_rfl) (by kernel_rfl) (by kernel_rfl) (by kernel_rfl) (fun _ _ _ h => h) (Or.inl ⟨by rfl, ?hy5105⟩) hHeld ?r5105
                case hy5105 => (intro w hSw; (try dsimp only at hSw); rw [hP] at hSw; obtain ⟨z0, z1⟩ := hSw; go_simp <;> with_reducible rfl)
                simp only [Act.put, List.setIfInBounds_toArray, List.set_cons_zero, List.set_cons_succ]
                refine AnyU.take (i := 5) (v := ?v5106) rfl (by kernel_rfl) (by kernel_rfl) (by kernel_rfl) (by kernel_rfl) (fun _ _ _ h => h) (Or.inl ⟨by rfl, ?hy5106⟩) hHeld ?r5106
                case hy5106 => (intro w hSw; (try dsimp only at hSw); rw [hP] at hSw; obtain ⟨z0, z1⟩ := hSw; go_simp <;> with_reducible rfl)
                simp only [Act.put, List.setIfInBounds_toArray, List.set_cons_zero, List.set_cons_succ]
                refine AnyU.take (i := 6) (v := ?v5107) rfl (by kernel_rfl) (by kernel_rfl) (by kernel_rfl) (by kernel_rfl) (fun _ _ _ h => h) (Or.inl ⟨by rfl, ?hy5107⟩) hHeld ?r5107
                case hy5107 => (intro w hSw; (try dsimp only at hSw); rw [hP] at hSw; obtain ⟨z0, z1⟩ := hSw; go_simp <;> with_reducible rfl)
                simp only [Act.put, List.setIfInBounds_toArray, List.set_cons_zero, List.set_cons_succ]
                refine AnyU.take (i := 7) (v := ?v5108) rfl (by kernel_rfl) (by kernel_rfl) (by kernel_rfl) (by kernel_rfl) (fun _ _ _ h => h) (Or.inl ⟨by rfl, ?hy5108⟩) hHeld ?r5108
                case hy5108 => (intro w hSw; (try dsimp only at hSw); rw [hP] at hSw; obtain ⟨z0, z1⟩ := hSw; go_simp <;> with_reducible rfl)
                simp only [Act.put, List.setIfInBounds_toArray, List.set_cons_zero, List.set_cons_succ]
                refine AnyU.take (i := 8) (v := ?v5109) rfl (by kernel_rfl) (by kernel_rfl) (by kernel_rfl) (by kernel_rfl) (fun _ _ _ h => h) (Or.inl ⟨by rfl, ?hy5109⟩) hHeld ?r5109
                case hy5109 => (intro w hSw; (try dsimp only at hSw); rw [hP] at hSw; obtain ⟨z0, z1⟩ := hSw; go_simp <;> with_reducible rfl)
                simp only [Act.put, List.setIfInBounds_toArray, List.set_cons_zero, List.set_cons_succ]
                refine AnyU.take (i := 9) (v := ?v5110) rfl (by kernel_rfl) (by kernel_rfl) (by kernel_rfl) (by kernel_rfl) (fun _ _ _ h => h) (Or.inl ⟨by rfl, ?hy5110⟩) hHeld ?r5110
                case hy5110 => (intro w hSw; (try dsimp only at hSw); rw [hP] at hSw; obtain ⟨z0, z1⟩ := hSw; go_simp <;> with_reducible rfl)
                simp only [Act.put, List.setIfInBounds_toArray, List.set_cons_zero, List.set_cons_succ]
                refine AnyU.take (i := 10) (v := ?v5111) rfl (by kernel_rfl) (by kernel_rfl) (by kernel_rfl) (by kernel_rfl) (fun _ _ _ h => h) (Or.inl ⟨by rfl, ?hy5111⟩) hHeld ?r5111
                case hy5111 => (intro w hSw; (try dsimp only at hSw); rw [hP] at hSw; obtain ⟨z0, z1⟩ := hSw; go_simp <;> with_reducible rfl)
                simp only [Act.put, List.setIfInBounds_toArray, List.set_cons_zero, List.set_cons_succ]
                clear hHeld
                refine AnyU.next (js := [11]) (by kernel_rfl) (by simp) (NextU.cons rfl (fun K hK => ?_) NextU.nil)
                go_simp
                refine hK.out _ _ (fun _ => HPA.out) (fun hHeld => ?_)
                try simp only [Act.put, List.setIfInBounds_toArray, List.set_cons_zero, List.set_cons_succ]
                clear hK K hHeld
                refine AnyU.next (js := [12]) (by kernel_rfl) (by simp) (NextU.cons rfl (fun K hK => ?_) NextU.nil)
                refine step_append_any rfl (.tmp 98) (.tmp 105) 37 rfl w.heap.size 34 (.pointer none) 1 8 infoPD Try.underlying37 rfl (by decide) _ prs.length (prs.map (ptrV ∘ Pr.q)) rfl HRQ.out (w7.drew.alloc (.cells #[ptrV Y.q] 34)).heap.size (some ⟨w7.drew.heap.size, 0, none⟩) 1 1 [ptrV Y.q] rfl HPN.out.2 K1.out G2.out G3.out K4.out ?_
                intro v8 W8 hown hg hat
                have HQ := hide (HRW.out.push_q (v' := v8) (W2 := W8) (p := Y.q) (by rw [List.length_map, List.map_map]; exact hown) hg hat)
                obtain ⟨A8, c8, rfl⟩ := own_shape hown
                have HP8 : Hid (P W8) := hide (by
                  rw [HPE.out]
                  refine ⟨cell_of_row W8 w.heap.size 5 _ _ (0, 0) HQ.out.1, ?_⟩
                  rw [HY.out]
                  have hjj : j = 0 ∨ j = 1 := by have := HJ2.out; omega
                  rcases hjj with rfl | rfl
                  · exact cell_of_row W8 w.heap.size 2 _ _ (0, 0) HQ.out.1
                  · exact cell_of_row W8 w.heap.size 3 _ _ (0, 0) HQ.out.1)
                clear hown hg hat
                refine hK.out _ _ (fun _ => HP8.out) (fun hHeld => ?_)
                try simp only [Act.put, List.setIfInBounds_toArray, List.set_cons_zero, List.set_cons_succ]
                clear hK K hHeld
                refine AnyU.next (js := [13]) (by kernel_rfl) (by simp) (NextU.cons rfl (fun K hK => ?_) NextU.nil)
                go_simp
                refine hK.out _ _ (fun _ => HP8.out) (fun hHeld => ?_)
                try simp only [Act.put, List.setIfInBounds_toArray, List.set_cons_zero, List.set_cons_succ]
                clear hK K hHeld
                refine AnyU.next (js := [14]) (by kernel_rfl) (by simp) (NextU.cons rfl (fun K hK => ?_) NextU.nil)
                go_simp
                refine hK.out _ _ (fun _ => HP8.out) (fun hHeld => ?_)
                try simp only [Act.put, List.setIfInBounds_toArray, List.set_cons_zero, List.set_cons_succ]
                clear hK K hHeld
                have g4 := cell_of_row W8 w.heap.size 5 _ _ (0, 0) HQ.out.1
                have f4 := frozen_of_row W8 w.heap.size 5 _ _ HQ.out.1
                simp only [List.getElem?_toArray, List.getElem?_cons_zero, List.getElem?_cons_succ] at g4
                refine AnyU.next (js := [15]) (by kernel_rfl) (by simp) (NextU.cons rfl (fun K hK => ?_) NextU.nil)
                go_simp
                refine hK.out _ _ (fun h => absurd h (by decide)) (fun hHeld => ?_)
                try simp only [Act.put, List.setIfInBounds_toArray, List.set_cons_zero, List.set_cons_succ]
                clear hK K hHeld
                clear g4 f4
                refine AnyU.over (by kernel_rfl) ?_ _
                have HBd : Hid (Below w7.heap.size w7 (w7.drew.alloc (.cells #[ptrV Y.q] 34))) := hide (((Below.refl _ w7).drew).trans HPN.out.1)
                have hall : ∀ i, OwW w.heap.size (.slice A6 (prs.length + 1) c6) (.slice A8 (prs.length + 1) c8) i → (∀ b, ¬ (X b).All i) ∧ ∀ Z ∈ prs, ¬ Z.All i := fun i hi => by
                  rcases HQ.out.2.2.2 i hi with e | e
                  · exact HO7.out i e
                  · have hz : w7.heap.size ≤ (w7.drew.alloc (.cells #[ptrV Y.q] 34)).heap.size := HBd.out.size
                    exact ⟨fun b hA => by have := (HC7.out.1 b).lt i hA; omega, fun Z hZ hA => by have := (HC7.out.2 Z hZ).lt i hA; omega⟩
                have HE9 : Hid (EndW w.heap.size 1000 w.heap.size X (prs ++ [Y]) (.slice A6 (prs.length + 1) c6) (.slice A8 (prs.length + 1) c8) (W8.setCell ⟨w.heap.size, 5, none⟩ (.slice A8 (prs.length + 1) c8))) := hide (by
                  have hc : ∀ b, PrW w.heap.size 1000 (X b) (W8.setCell ⟨w.heap.size, 5, none⟩ (.slice A8 (prs.length + 1) c8)) := fun b => ((HC7.out.1 b).below HBd.out).only HQ.out.2.2.1 (fun i hi ho => (HO7.out i ho).1 b hi)
                  refine ⟨?_, hc, fun Z hZ => ?_, fun i hi => ⟨(hall i hi).1, fun Z hZ => ?_⟩⟩
                  · rw [List.map_append, List.map_append]
                    exact HQ.out.2.1
                  · rcases List.mem_append.1 hZ with hZ | hZ
                    · exact ((HC7.out.2 Z hZ).below HBd.out).only HQ.out.2.2.1 (fun i hi ho => (HO7.out i ho).2 Z hZ hi)
                    · obtain rfl := List.mem_singleton.1 hZ
                      rw [HY.out]; exact hc _
                  · rcases List.mem_append.1 hZ with hZ | hZ
                    · exact (hall i hi).2 Z hZ
                    · obtain rfl := List.mem_singleton.1 hZ
                      rw [HY.out]; exact (hall i hi).1 _)
                have HB9 : Hid (Below w.heap.size w (W8.setCell ⟨w.heap.size, 5, none⟩ (.slice A8 (prs.length + 1) c8))) := hide (HB7.out.trans ((HBd.out.mono HB7.out.size).trans ((HQ.out.2.2.1.below K4.out (fun i hi => (HR7.out.lt i hi).1)).mono (Nat.le_refl _))))
                have HZ9 : Hid (w.heap.size ≤ (W8.setCell ⟨w.heap.size, 5, none⟩ (.slice A8 (prs.length + 1) c8)).heap.size) := hide (Nat.le_trans K4.out HQ.out.2.2.1.size)
                clear hall HQ HPN HRQ HRW HP8 HPA HPE hP hP0 HBd
                generalize W8.setCell ⟨w.heap.size, 5, none⟩ (.slice A8 (prs.length + 1) c8) = w9 at *
                go_wp2_with fail
                go_roundw
                case rel => exact ⟨j + 1, _, _, _, HJ2.out, by go_num, HE9.out, by simp only [List.length_append, List.length_cons, List.length_nil]; have := HOS.out; omega, HZ9.out, HB9.out⟩
                case measure => have := HJ2.out; simp [intOf]; omega
              · have hj3 : ¬ (j : Int) < 2 := by omega
                have HPL : Hid (prs.length ≤ 12) := hide (by have := HOS.out; have := HJ.out; omega)
                clear hj2 HOS HJ
                go_wp2_with fail
                go_loopw [14] (fun iv W => ∃ i : Nat, i ≤ prs.length ∧ iv = .int .i64 i ∧ EndW w.heap.size 1000 w.heap.size X prs (.slice A4 prs.length c4) (.slice A5 prs.length c5) W ∧ Below w.heap.size w W) (fun iv _ => prs.length - (intOf iv).toNat)
                case atStart => exact ⟨0, Nat.zero_le _, rfl, HEN.out, HBK.out⟩
                case round =>
                  rename World => wi
                  clear HEN HWZ HBK
                  obtain ⟨i, hi, rfl, hen, hb⟩ := hrel
                  have HI := hide hi
                  have HEN := hide hen
                  have HBK := hide hb
                  have w4 : wi.cell? ⟨w.heap.size, 4, none⟩ = some (.slice A4 prs.length c4) := cell_of_row wi w.heap.size 4 _ _ (0, 0) hen.rows.blk
                  have w5 : wi.cell? ⟨w.heap.size, 5, none⟩ = some (.slice A5 prs.length c5) := cell_of_row wi w.heap.size 5 _ _ (0, 0) hen.rows.blk
                  clear hen hb hi
                  have hi0 : (0 : Int) ≤ (i : Int) := by omega
                  by_cases hlt : i < prs.length
                  · have hil : (i : Int) < (prs.length : Int) := by omega
                    have HLT := hide hlt
                    have hi9 : (i : Int) ≤ 12 := by have := HPL.out; omega
                    obtain ⟨Y, g1, g2, cc1, cc2, hYm, e1, e2, k1, k2⟩ := HEN.out.at_ hlt
                    injection e1 with e1 _ _
                    injection e2 with e2 _ _
                    subst e1 e2
                    simp only [ptrV] at k1 k2
                    have HED := hide ((HEN.out.below ((Below.refl _ wi).drew)).each Y hYm)
                    have HTD := hide (told_any HED.out.ca HED.out.da 0)
                    obtain ⟨P, hP⟩ : ∃ P : World → Prop, P = fun W => W.cell? ⟨w.heap.size, 4, none⟩ = some (.slice (some ⟨g1, 0, none⟩) prs.length c4) ∧ W.cell? ⟨w.heap.size, 5, none⟩ = some (.slice (some ⟨g2, 0, none⟩) prs.length c5) ∧ W.cell? ⟨g1, i, none⟩ = some (.pointer (some ⟨Y.p, 0, none⟩)) ∧ W.cell? ⟨g2, i, none⟩ = some (.pointer (some ⟨Y.q, 0, none⟩)) := ⟨_, rfl⟩
                    have hP0 : P wi.drew := by rw [hP]; exact ⟨w4, w5, k1, k2⟩
                    have HPW : Hid (∀ W, Below wi.heap.size wi W → P W) := hide (fun W hW => by rw [hP]; exact ⟨(hW.cell (lt_of_cell w4)).trans w4, (hW.cell (lt_of_cell w5)).trans w5, (hW.cell (lt_of_cell k1)).trans k1, (hW.cell (lt_of_cell k2)).trans k2⟩)
                    clear hYm hlt
                    go_wp2_with fail
                    clear w4 w5 k1 k2
                    refine wp_region_U 16 P (by kernel_rfl) hP0 (fun hHeld => ?_)
                    refine AnyU.take (i := 0) (v := ?v5201) rfl (by kernel_rfl) (by kernel_rfl) (by kernel_rfl) (by kernel_rfl) (fun _ _ _ h => h) (Or.inl ⟨by rfl, ?hy5201⟩) hHeld ?r5201
                    case hy5201 => (intro w hSw; (try dsimp only at hSw); rw [hP] at hSw; obtain ⟨z0, z1, z2, z3⟩ := hSw; go_simp <;> with_reducible rfl)
                    simp only [Act.put, List.setIfInBounds_toArray, List.set_cons_zero, List.set_cons_succ]
                    refine AnyU.take (i := 1) (v := ?v5202) rfl (by kernel_rfl) (by kernel_rfl) (by kernel_rfl) (by kernel_rfl) (fun _ _ _ h => h) (Or.inl ⟨by rfl, ?hy5202⟩) hHeld ?r5202
                    case hy5202 => (intro w hSw; (try dsimp only at hSw); rw [hP] at hSw; obtain ⟨z0, z1, z2, z3⟩ := hSw; go_simp <;> with_reducible rfl)
                    simp only [Act.put, List.setIfInBounds_toArray, List.set_cons_zero, List.set_cons_succ]
                    refine AnyU.take (i := 2) (v := ?v5203) rfl (by kernel_rfl) (by kernel_rfl) (by kernel_rfl) (by kernel_rfl) (fun _ _ _ h => h) (Or.inl ⟨by rfl, ?hy5203⟩) hHeld ?r5203
                    case hy5203 => (intro w hSw; (try dsimp only at hSw); rw [hP] at hSw; obtain ⟨z0, z1, z2, z3⟩ := hSw; go_simp <;> with_reducible rfl)
                    simp only [Act.put, List.setIfInBounds_toArray, List.set_cons_zero, List.set_cons_succ]
                    refine AnyU.take (i := 3) (v := ?v5204) rfl (by kernel_rfl) (by kernel_rfl) (by kernel_rfl) (by kernel_rfl) (fun _ _ _ h => h) (Or.inl ⟨by rfl, ?hy5204⟩) hHeld ?r5204
                    case hy5204 => (intro w hSw; (try dsimp only at hSw); rw [hP] at hSw; obtain ⟨z0, z1, z2, z3⟩ := hSw; go_simp <;> with_reducible rfl)
                    simp only [Act.put, List.setIfInBounds_toArray, List.set_cons_zero, List.set_cons_succ]
                    refine AnyU.take (i := 4) (v := ?v5205) rfl (by kernel_rfl) (by kernel_rfl) (by kernel_rfl) (by kernel_rfl) (fun _ _ _ h => h) (Or.inl ⟨by rfl, ?hy5205⟩) hHeld ?r5205
                    case hy5205 => (intro w hSw; (try dsimp only at hSw); rw [hP] at hSw; obtain ⟨z0, z1, z2, z3⟩ := hSw; go_simp <;> with_reducible rfl)
                    simp only [Act.put, List.setIfInBounds_toArray, List.set_cons_zero, List.set_cons_succ]
                    refine AnyU.take (i := 5) (v := ?v5206) rfl (by kernel_rfl) (by kernel_rfl) (by kernel_rfl) (by kernel_rfl) (fun _ _ _ h => h) (Or.inl ⟨by rfl, ?hy5206⟩) hHeld ?r5206
                    case hy5206 => (intro w hSw; (try dsimp only at hSw); rw [hP] at hSw; obtain ⟨z0, z1, z2, z3⟩ := hSw; go_simp <;> with_reducible rfl)
                    simp only [Act.put, List.setIfInBounds_toArray, List.set_cons_zero, List.set_cons_succ]
                    refine AnyU.take (i := 6) (v := ?v5207) rfl (by kernel_rfl) (by kernel_rfl) (by kernel_rfl) (by kernel_rfl) (fun _ _ _ h => h) (Or.inl ⟨by rfl, ?hy5207⟩) hHeld ?r5207
                    case hy5207 => (intro w hSw; (try dsimp only at hSw); rw [hP] at hSw; obtain ⟨z0, z1, z2, z3⟩ := hSw; go_simp <;> with_reducible rfl)
                    simp only [Act.put, List.setIfInBounds_toArray, List.set_cons_zero, List.set_cons_succ]
                    refine AnyU.take (i := 7) (v := ?v5208) rfl (by kernel_rfl) (by kernel_rfl) (by kernel_rfl) (by kernel_rfl) (fun _ _ _ h => h) (Or.inl ⟨by rfl, ?hy5208⟩) hHeld ?r5208
                    case hy5208 => (intro w hSw; (try dsimp only at hSw); rw [hP] at hSw; obtain ⟨z0, z1, z2, z3⟩ := hSw; go_simp <;> with_reducible rfl)
                    simp only [Act.put, List.setIfInBounds_toArray, List.set_cons_zero, List.set_cons_succ]
                    refine AnyU.take (i := 8) (v := ?v5209) rfl (by kernel_rfl) (by kernel_rfl) (by kernel_rfl) (by kernel_rfl) (fun _ _ _ h => h) (Or.inl ⟨by rfl, ?hy5209⟩) hHeld ?r5209
                    case hy5209 => (intro w hSw; (try dsimp only at hSw); rw [hP] at hSw; obtain ⟨z0, z1, z2, z3⟩ := hSw; go_simp <;> with_reducible rfl)
                    simp only [Act.put, List.setIfInBounds_toArray, List.set_cons_zero, List.set_cons_succ]
                    refine AnyU.take (i := 9) (v := ?v5210) rfl (by kernel_rfl) (by kernel_rfl) (by kernel_rfl) (by kernel_rfl) (fun _ _ _ h => h) (Or.inl ⟨by rfl, ?hy5210⟩) hHeld ?r5210
                    case hy5210 => (intro w hSw; (try dsimp only at hSw); rw [hP] at hSw; obtain ⟨z0, z1, z2, z3⟩ := hSw; go_simp <;> with_reducible rfl)
                    simp only [Act.put, List.setIfInBounds_toArray, List.set_cons_zero, List.set_cons_succ]
                    refine AnyU.take (i := 10) (v := ?v5211) rfl (by kernel_rfl) (by kernel_rfl) (by kernel_rfl) (by kernel_rfl) (fun _ _ _ h => h) (Or.inl ⟨by rfl, ?hy5211⟩) hHeld ?r5211
                    case hy5211 => (intro w hSw; (try dsimp only at hSw); rw [hP] at hSw; obtain ⟨z0, z1, z2, z3⟩ := hSw; go_simp <;> with_reducible rfl)
                    simp only [Act.put, List.setIfInBounds_toArray, List.set_cons_zero, List.set_cons_succ]
                    refine AnyU.take (i := 11) (v := ?v5212) rfl (by kernel_rfl) (by kernel_rfl) (by kernel_rfl) (by kernel_rfl) (fun _ _ _ h => h) (Or.inl ⟨by rfl, ?hy5212⟩) hHeld ?r5212
                    case hy5212 => (intro w hSw; (try dsimp only at hSw); rw [hP] at hSw; obtain ⟨z0, z1, z2, z3⟩ := hSw; go_simp <;> with_reducible rfl)
                    simp only [Act.put, List.setIfInBounds_toArray, List.set_cons_zero, List.set_cons_succ]
                    refine AnyU.take (i := 12) (v := ?v5213) rfl (by kernel_rfl) (by kernel_rfl) (by kernel_rfl) (by kernel_rfl) (fun _ _ _ h => h) (Or.inl ⟨by rfl, ?hy5213⟩) hHeld ?r5213
                    case hy5213 => (intro w hSw; (try dsimp only at hSw); rw [hP] at hSw; obtain ⟨z0, z1, z2, z3⟩ := hSw; go_simp <;> with_reducible rfl)
                    simp only [Act.put, List.setIfInBounds_toArray, List.set_cons_zero, List.set_cons_succ]
                    refine AnyU.take (i := 13) (v := ?v5214) rfl (by kernel_rfl) (by kernel_rfl) (by kernel_rfl) (by kernel_rfl) (fun _ _ _ h => h) (Or.inl ⟨by rfl, ?hy5214⟩) hHeld ?r5214
                    case hy5214 => (intro w hSw; (try dsimp only at hSw); rw [hP] at hSw; obtain ⟨z0, z1, z2, z3⟩ := hSw; go_simp <;> with_reducible rfl)
                    simp only [Act.put, List.setIfInBounds_toArray, List.set_cons_zero, List.set_cons_succ]
                    clear hHeld
                    refine AnyU.next (js := [14]) (by kernel_rfl) (by simp) (NextU.cons rfl (fun K hK => ?_) NextU.nil)
                    go_simp
                    refine (HTD.out).mono ?_
                    rintro _ wt ⟨rfl, hbt⟩
                    have HBT : Hid (Below wi.heap.size wi wt) := hide (((Below.refl _ wi).drew).trans hbt)
                    have HPT := hide (HPW.out wt HBT.out)
                    have HET := hide (HEN.out.below HBT.out)
                    have HBX : Hid (Below w.heap.size w wt) := hide (HBK.out.trans (HBT.out.mono HBK.out.size))
                    clear hbt
                    refine hK.out _ _ (fun _ => HPT.out) (fun hHeld => ?_)
                    try simp only [Act.put, List.setIfInBounds_toArray, List.set_cons_zero, List.set_cons_succ]
                    clear hK K
                    have hHeld := hHeld (by decide)
                    refine AnyU.take (i := 15) (v := ?v5215) rfl (by kernel_rfl) (by kernel_rfl) (by kernel_rfl) (by kernel_rfl) (fun _ _ _ h => h) (Or.inl ⟨by rfl, ?hy5215⟩) hHeld ?r5215
                    case hy5215 => (intro w hSw; (try dsimp only at hSw); rw [hP] at hSw; obtain ⟨z0, z1, z2, z3⟩ := hSw; go_simp <;> with_reducible rfl)
                    simp only [Act.put, List.setIfInBounds_toArray, List.set_cons_zero, List.set_cons_succ]
                    clear hHeld
                    refine AnyU.over (by kernel_rfl) ?_ _
                    clear hP0 hP
                    go_wp2_with fail
                    go_roundw
                    case rel => exact ⟨i + 1, HLT.out, by go_num, HET.out, HBX.out⟩
                    case measure => have := HLT.out; simp [intOf]; omega
                  · have hil : ¬ (i : Int) < (prs.length : Int) := by omega
                    clear hlt
                    go_wp2_with fail
                    refine (HKN.out wi).mono ?_
                    rintro _ wz ⟨rfl, hbz⟩
                    have HBZ : Hid (Below w.heap.size w wz) := hide (HBK.out.trans (hbz.mono HBK.out.size))
                    clear hbz
                    go_wp2_with fail
                    go_ret
                    exact ⟨rfl, HBZ.out⟩
end Go.Proofs.Ytkidefmkgcankaa
