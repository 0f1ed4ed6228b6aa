/- A range over an iterator that itself goes over an iterator: what a round may turn is a set of blocks; no activation's own records are among them. -/
import Derived.Test.YtgjeihgkcmheeaaDoorBase
import Derived.RangeFuncNested
import Derived.RangeFuncBound
import Derived.RangeFuncCalls
import Derived.RangeFuncLeaves
import Derived.RangeFuncFrom
import Derived.Shelf.Abstract
import Derived.Shelf.RegionOpen
import Derived.OwnWalkIn
import Derived.TacticsInMore
import Derived.LoopNIn
import Derived.LoopIn
namespace Go.Proofs.YtgjeihgkcmheeaaDoor
open Go.RowKit Go.Shelf

/-- No block but those of p, and new ones, has turned. -/
structure OutP (p : Nat → Prop) (w w' : World) : Prop where
  size : w.heap.size ≤ w'.heap.size
  block : ∀ k, k < w.heap.size → ¬ p k → w'.heap[k]? = w.heap[k]?
section
variable {p q : Nat → Prop} {a b c : World}
theorem OutP.refl (p : Nat → Prop) (a : World) : OutP p a a := ⟨Nat.le_refl _, fun _ _ _ => rfl⟩
theorem OutP.trans (h : OutP p a b) (k : OutP p b c) : OutP p a c := ⟨Nat.le_trans h.size k.size, fun i hi hn => (k.block i (Nat.lt_of_lt_of_le hi h.size) hn).trans (h.block i hi hn)⟩
theorem OutP.mono (h : OutP p a b) (hq : ∀ k, p k → q k) : OutP q a b := ⟨h.size, fun i hi hn => h.block i hi (fun e => hn (hq i e))⟩
theorem OutP.of_below (h : Below a.heap.size a b) : OutP p a b := ⟨h.size, fun i hi _ => h.block i hi⟩
theorem OutP.set (h : OutP p a b) (x : Addr) (hx : p x.block) (v : Value) : OutP p a (b.setCell x v) :=
  ⟨by simpa [World.setCell] using h.size, fun i hi hn => (Below.heap_setCell b x v i (fun e => hn (e ▸ hx))).trans (h.block i hi hn)⟩
theorem OutP.put (h : OutP p a b) {l : Nat} (hl : p l) (o : Obj) : OutP p a (b.putObj l o) :=
  ⟨by simpa using h.size, fun i hi hn => (World.putObj_heap_other (by rintro rfl; exact hn hl)).trans (h.block i hi hn)⟩
theorem OutP.drewN (h : OutP p a b) (n : Nat) : OutP p a (b.drewN n) := ⟨h.size, h.block⟩
theorem OutP.alloc (h : OutP p a b) (o : Obj) : OutP p a (b.alloc o) := ⟨by have := h.size; simp; omega, fun i hi hn => (Below.heap_alloc b o i (Nat.lt_of_lt_of_le hi h.size)).trans (h.block i hi hn)⟩
end

theorem roundIn_any {m m' : Nat} {P : Program} {l : Nat} {f : FuncId} {tmps : Array Value} {assign body : Code} {w : World} {R : Ending → World → Prop} (h : RoundIn Fence.wide m P l f tmps assign body w R) : RoundIn Fence.wide m' P l f tmps assign body w R :=
  ⟨h.1, fun c cs _ => h.2 c cs (room_wide _)⟩

/-- What an iterator gives from the world W on, where a round may turn the blocks of p alone; E: which one may come next. -/
def SeqO {α : Type} (p : Nat → Prop) (P : Program) (g : Nat) (lb : Array Value) (encs : α → Array Value) (S Sp : List α → Prop) (E : List α → α → Prop) (W : World) : Prop :=
  ∀ (l : Nat) (J Jx : List α → World → Prop), OwnFrom W.heap.size J → OwnFrom W.heap.size Jx →
    (∀ (pre : List α) (x : α) (W1 : World), J pre W1 → E pre x → OutP p W W1 → ∀ m, YieldAt Fence.wide m P l (encs x) W1 fun e W' =>
      OutP p W1 W' ∧ ((e = .returned (.bool true) ∧ J (pre ++ [x]) W') ∨ (e = .returned (.bool false) ∧ Jx (pre ++ [x]) W'))) →
    J [] W →
    Calls P g (#[.func (.yield l) #[] #[]] ++ lb) W fun e W' => (∃ v, e = .returned v) ∧ ((∃ xs, S xs ∧ J xs W') ∨ (∃ pre, Sp pre ∧ Jx pre W'))

/-- How the body of a round may be left. -/
def bodyO {α : Type} (p : Nat → Prop) (I : List α → World → Prop) (Ix : Code → List α → World → Prop) (xs : List α) (W : World) : Exit → Act → World → Prop
  | .normal, _, W' => OutP p W W' ∧ I xs W'
  | .ret, _, W' => OutP p W W' ∧ Ix .ret xs W'
  | .exit id, _, W' => OutP p W W' ∧ Ix (.exit id) xs W'
  | .goto t, _, W' => OutP p W W' ∧ Ix (.goto t) xs W'
  | .panic _, _, _ => False
  | .outgrown, _, _ => False

/-- The statement 'for .. := range g' in a function's own activation. -/
theorem wpIn_rangeSeq {α : Type} {P : Program} {n : Nat} {g : Operand} {ps : Array Tmp} {assign body : Code} {Q : Exit → Act → World → Prop} {a : Act} {w : World} {gf : Nat} {lb : Array Value}
    (hg : a.eval g = .func (.func gf) #[] lb) (eg : ∀ args w, (callFunc gf args).run P w = .ok (.enter gf args) w) {encs : α → Array Value} {S Sp : List α → Prop} {E : List α → α → Prop} (p : Nat → Prop) (hp : ¬ p w.heap.size) (hp' : ¬ p (w.heap.size + 1))
    (hseq : ∀ W, Below w.heap.size w W → W.heap.size = w.heap.size + 2 → SeqO (fun k => p k ∨ k = w.heap.size + 1) P gf lb encs S Sp E W) (hps : ∀ x, (encs x).size = ps.size)
    (I : List α → World → Prop) (Ix : Code → List α → World → Prop) (hI : OwnFrom w.heap.size I) (hIx : ∀ c, OwnFrom w.heap.size (Ix c)) (h0 : I [] w) (a₁ : α → Act) (m : Nat)
    (hassign : ∀ (l : Nat) (pre : List α) (x : α) (W : World) (K : Act → World → Prop), E pre x → K (a₁ x) W →
      assign.wpIn (Fence.wide.inRound l) m P (Exit.then K (fun _ _ _ => False)) { tmps := (ps.zip (encs x)).foldl (fun t (p, v) => t.setIfInBounds p v) a.tmps, defers := [] } W)
    (hbody : ∀ (l : Nat) (pre : List α) (x : α) (W : World), I pre W → E pre x → w.heap.size + 2 ≤ W.heap.size → body.wpIn (Fence.wide.inRound l) m P (bodyO p I Ix (pre ++ [x]) W) (a₁ x) W)
    (hdone : ∀ (D : Nat) (xs : List α) (W : World), w.heap.size ≤ D → S xs → I xs W → W.heap[D]? = some (.deferred (some [])) → Q .normal { a with defers := { target := .collected D, args := #[] } :: a.defers } W)
    (hstop : ∀ (D : Nat) (c : Code) (pre : List α) (W : World), w.heap.size ≤ D → Sp pre → Ix c pre W → W.heap[D]? = some (.deferred (some [])) → c.wpIn Fence.wide n P Q { a with defers := { target := .collected D, args := #[] } :: a.defers } W) :
    (Code.rangeFunc g ps assign body).wpIn Fence.wide n P Q a w := by
  refine wpIn_rangeFunc ?_
  intro fn _
  obtain ⟨rec, hrec⟩ : ∃ rec : LoopState → Option Code → Loop, rec = fun st pe => { state := st, pending := pe, fn, tmps := a.tmps, params := ps, assign, body, defers := w.heap.size } := ⟨_, rfl⟩
  obtain ⟨L, hL⟩ : ∃ L, L = w.heap.size + 1 := ⟨_, rfl⟩
  obtain ⟨W1, hW1⟩ : ∃ W1, W1 = (w.alloc (.deferred (some []))).alloc (.loop (rec .ready none)) := ⟨_, rfl⟩
  have hz1 : W1.heap.size = w.heap.size + 2 := by rw [hW1]; simp
  have hb1 : Below w.heap.size w W1 := by rw [hW1]; exact ((Below.refl _ _).alloc (Nat.le_refl _) _).alloc (by simp) _
  have hl1 : W1.heap[L]? = some (.loop (rec .ready none)) := by
    have := World.alloc_heap_new (w.alloc (.deferred (some []))) (.loop (rec .ready none))
    rw [World.size_alloc] at this
    rw [hW1, hL]; exact this
  have hk1 : W1.heap[w.heap.size]? = some (.deferred (some [])) := by
    rw [hW1]; exact (Below.heap_alloc _ _ _ (by simp)).trans (World.alloc_heap_new w _)
  have hI1 : I [] W1 := by rw [hW1]; exact hI.alloc _ (hI.alloc _ h0)
  refine ⟨L, [{ target := .collected w.heap.size, args := #[] }], W1, { target := .fn (.func gf) lb, args := #[.func (.yield L) #[] #[]] }, W1, gf, #[.func (.yield L) #[] #[]] ++ lb, W1, ?_, ?_, fun _ _ => trivial, ?_, ?_, callsIn_wide.2 ?_⟩
  · rw [hW1, hrec, hL]; exact run_enterLoop_outer _ _ _ _ _
  · simp only [resolve, hg]
    simp [go_sem]
  · simp [invoke, go_sem, eg]
  · intro h; simp [Fence.wide] at h
  have key : ∀ {B : Nat} {A C : World} {row : Option Nat} {k : Nat} {o : Obj}, A.grownBy C row → (∀ r, row = some r → W1.heap.size ≤ r ∧ ∃ o : Obj, A.heap[r]? = some o ∧ o.isCells = false) → k < w.heap.size + 2 → A.heap[k]? = some o → C.heap[k]? = some o := by
    intro B A C row k o hg' hr hk ho
    exact (hg'.block k (Array.getElem?_eq_some_iff.1 ho).1 (fun e => by have := (hr k e.symm).1; omega)).trans ho
  have fit : ∀ {A : World} {row : Option Nat}, (∀ r, row = some r → W1.heap.size ≤ r ∧ ∃ o : Obj, A.heap[r]? = some o ∧ o.isCells = false) → (∀ r, row = some r → w.heap.size ≤ r ∧ ∃ o : Obj, A.heap[r]? = some o ∧ o.isCells = false) :=
    fun hr r e => ⟨by have := (hr r e).1; omega, (hr r e).2⟩
  have hs := hseq W1 hb1 hz1
  rw [← hL] at hs
  refine (hs L
    (fun pre W => I pre W ∧ W.heap[L]? = some (.loop (rec .ready none)) ∧ W.heap[w.heap.size]? = some (.deferred (some [])))
    (fun pre W => ∃ c, Ix c pre W ∧ W.heap[L]? = some (.loop (rec .done (some c))) ∧ W.heap[w.heap.size]? = some (.deferred (some [])))
    (fun s A C row hs hg' hr => ⟨hI s A C row hs.1 hg' (fit hr), key (B := 0) hg' hr (by omega) hs.2.1, key (B := 0) hg' hr (by omega) hs.2.2⟩)
    (fun s A C row hs hg' hr => by
      obtain ⟨c, hc, hl, hk⟩ := hs
      exact ⟨c, hIx c s A C row hc hg' (fit hr), key (B := 0) hg' hr (by omega) hl, key (B := 0) hg' hr (by omega) hk⟩)
    ?_ ⟨hI1, hl1, hk1⟩).mono ?_
  · rintro pre x W ⟨hi, hl, hk⟩ hlen hout m'
    have hsz : w.heap.size + 2 ≤ W.heap.size := by have := hout.size; omega
    have hlt : L < W.heap.size := by omega
    have hy := run_yield (P := P) (args := encs x) hl (by rw [hrec]; exact hps x)
    rw [hrec] at hy
    refine ⟨fn, _, assign, body, hy, roundIn_any (m := m) (roundIn_of_wpIn trivial (hassign _ pre x W _ hlen ⟨_, run_beginRound hl (by rw [hrec]), ?_⟩))⟩
    obtain ⟨W2, hW2⟩ : ∃ W2, W2 = W.putObj L (.loop { rec .ready none with state := .busy }) := ⟨_, rfl⟩
    have hl2 : W2.heap[L]? = some (.loop { rec .ready none with state := .busy }) := by rw [hW2]; exact World.putObj_heap_same hlt
    have hk2 : W2.heap[w.heap.size]? = some (.deferred (some [])) := by rw [hW2]; exact (World.putObj_heap_other (by omega)).trans hk
    have hz2 : W2.heap.size = W.heap.size := by rw [hW2]; simp
    have ho2 : OutP (fun k => p k ∨ k = L) W W2 := by rw [hW2]; exact (OutP.refl _ _).put (.inr rfl) _
    rw [← hW2]
    refine wpIn_mono (hbody _ pre x W2 (by rw [hW2]; exact hI.putObj _ hi (by omega) hl rfl) hlen (by omega)) ?_
    have fin : ∀ (jump : Option Code) (W3 : World), OutP p W2 W3 →
        (Instr.endRound L jump).run P W3 = .ok (.bool jump.isNone) (W3.putObj L (.loop (rec (if jump.isNone then .ready else .done) jump))) ∧
        W3.heap[L]? = some (.loop { rec .ready none with state := .busy }) ∧
        (W3.putObj L (.loop (rec (if jump.isNone then .ready else .done) jump))).heap[L]? = some (.loop (rec (if jump.isNone then .ready else .done) jump)) ∧
        (W3.putObj L (.loop (rec (if jump.isNone then .ready else .done) jump))).heap[w.heap.size]? = some (.deferred (some [])) ∧
        OutP (fun k => p k ∨ k = L) W (W3.putObj L (.loop (rec (if jump.isNone then .ready else .done) jump))) := fun jump W3 ho3 => by
      have hl3 := (ho3.block L (by omega) (hL ▸ hp')).trans hl2
      have hk3 := (ho3.block w.heap.size (by omega) hp).trans hk2
      have := run_endRound (P := P) jump hl3
      rw [hrec] at this ⊢
      exact ⟨this, by rw [hrec] at hl3; exact hl3, World.putObj_heap_same (Array.getElem?_eq_some_iff.1 hl3).1, (World.putObj_heap_other (by omega)).trans hk3, (ho2.trans (ho3.mono fun _ h => .inl h)).put (.inr rfl) _⟩
    rintro e a3 W3 hq
    cases e with
    | normal =>
      obtain ⟨ho3, hi3⟩ := hq
      obtain ⟨hr, hl3, hl4, hk4, ho4⟩ := fin none W3 ho3
      exact ⟨_, _, hr, ho4, .inl ⟨rfl, hI.putObj _ hi3 (by omega) hl3 rfl, hl4, hk4⟩⟩
    | ret =>
      obtain ⟨ho3, hi3⟩ := hq
      obtain ⟨hr, hl3, hl4, hk4, ho4⟩ := fin (some .ret) W3 ho3
      exact ⟨_, _, hr, ho4, .inr ⟨rfl, .ret, (hIx _).putObj _ hi3 (by omega) hl3 rfl, hl4, hk4⟩⟩
    | exit id =>
      obtain ⟨ho3, hi3⟩ := hq
      obtain ⟨hr, hl3, hl4, hk4, ho4⟩ := fin (some (.exit id)) W3 ho3
      exact ⟨_, _, hr, ho4, .inr ⟨rfl, .exit id, (hIx _).putObj _ hi3 (by omega) hl3 rfl, hl4, hk4⟩⟩
    | goto t =>
      obtain ⟨ho3, hi3⟩ := hq
      obtain ⟨hr, hl3, hl4, hk4, ho4⟩ := fin (some (.goto t)) W3 ho3
      exact ⟨_, _, hr, ho4, .inr ⟨rfl, .goto t, (hIx _).putObj _ hi3 (by omega) hl3 rfl, hl4, hk4⟩⟩
    | panic ch => exact hq.elim
    | outgrown => exact hq.elim
  · rintro e W2 ⟨⟨v, rfl⟩, (⟨xs, hS, hi, hl, hk⟩ | ⟨pre, hSp, c, hi, hl, hk⟩)⟩
    · exact ⟨none, _, by have := run_endLoop (P := P) hl (by rw [hrec]; simp); rw [hrec] at this; exact this, hdone _ xs _ (Nat.le_refl _) hS (hI.putObj _ hi (by omega) hl rfl) ((World.putObj_heap_other (by omega)).trans hk)⟩
    · exact ⟨some c, _, by have := run_endLoop (P := P) hl (by rw [hrec]; simp); rw [hrec] at this; exact this, hstop _ c pre _ (Nat.le_refl _) hSp ((hIx c).putObj _ hi (by omega) hl rfl) ((World.putObj_heap_other (by omega)).trans hk)⟩
end Go.Proofs.YtgjeihgkcmheeaaDoor
