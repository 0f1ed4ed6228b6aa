/- The memory that clear.All's inner function stands on. -/
import Derived.Test.YtkjmpenaifhfjaaSeqL
import Derived.Test.YtkjmpenaifhfjaaAllP
import Derived.Test.YtkjmpenaifhfjaaFirst
import Derived.TacticsInMore
import Derived.LoopNIn
import Derived.LoopIn
import Derived.Maps.OwnIn
namespace Go.Proofs.Ytkjmpenaifhfjaa
open Go.RowKit Go.Maps
open Go.ChangeMaps Go.WideMaps

/-- The variables that the inner function takes: the choice so far, yield, the board, the instance, itself. -/
structure Env (S B cc yc bc xc oc l p m : Nat) (n : Int) (A : Option Addr) (c : Nat) (hs : List Hdr) (ls : List (List Offer)) (cv : Value) (head : List Int) (W : World) : Prop where
  kc : W.heap[cc]? = some (.cells #[cv] 33 (0, 0))
  ky : W.heap[yc]? = some (.cells #[.func (.yield l) #[] #[]] 85 (0, 0))
  kb : W.heap[bc]? = some (.cells #[.pointer (some ⟨p, 0, none⟩)] 66 (0, 0))
  kx : W.heap[xc]? = some (.cells #[.int .i64 n, .slice A ls.length c] 24 (0, 0))
  ko : W.heap[oc]? = some (.cells #[.func (.func 44) #[] #[.pointer (some ⟨cc, 0, none⟩), .pointer (some ⟨yc, 0, none⟩), .pointer (some ⟨bc, 0, none⟩), .pointer (some ⟨xc, 0, none⟩), .pointer (some ⟨oc, 0, none⟩)]] 86 (0, 0))
  board : Board W S p m n A c hs ls
  buys : Buys W B A hs ls
  row : ∃ xs : List Int, W.ownsRow S 3 1 cv ls.length (xs.map (Value.int .i64)) ∧ xs.take head.length = head
  lc : S ≤ cc
  ly : S ≤ yc
  lb : S ≤ bc
  lx : xc < B
  lo : S ≤ oc
  BS : B ≤ S
section
variable {S B cc yc bc xc oc l p m : Nat} {n : Int} {A : Option Addr} {c : Nat} {hs : List Hdr} {ls : List (List Offer)} {cv : Value} {head : List Int} {W W' : World}
theorem Env.size (h : Env S B cc yc bc xc oc l p m n A c hs ls cv head W) : S < W.heap.size := by
  have := lt_of_block h.kc
  have := h.lc
  omega
theorem Env.keep (h : Env S B cc yc bc xc oc l p m n A c hs ls cv head W) (hk : ∀ k, k < W.heap.size → (k < B ∨ S ≤ k) → W'.heap[k]? = W.heap[k]?) : Env S B cc yc bc xc oc l p m n A c hs ls cv head W' := by
  have hz := h.size
  have hBS := h.BS
  have hb := h.board
  have hlt := hb.lt
  have hbu : Buys W' B A hs ls := h.buys.keep (fun q hq => World.cell?_of_block (hk q.block (by omega) (.inl hq)))
  refine ⟨(hk _ (lt_of_block h.kc) (.inr h.lc)).trans h.kc, (hk _ (lt_of_block h.ky) (.inr h.ly)).trans h.ky, (hk _ (lt_of_block h.kb) (.inr h.lb)).trans h.kb, (hk _ (lt_of_block h.kx) (.inl h.lx)).trans h.kx, (hk _ (lt_of_block h.ko) (.inr h.lo)).trans h.ko, ?_, hbu, ?_, h.lc, h.ly, h.lb, h.lx, h.lo, hBS⟩
  · refine ⟨(hk _ hlt.1 (.inr hb.bp)).trans hb.blk, hbu.more hBS, ?_, hb.bp, hb.bm⟩
    obtain ⟨D, ⟨es, clock, h1, h2, h3, h4⟩, h5⟩ := hb.map
    exact ⟨D, ⟨es, clock, (hk _ hlt.2 (.inr hb.bm)).trans h1, h2, h3, h4⟩, h5⟩
  · obtain ⟨xs, ⟨h1, h2⟩, h3⟩ := h.row
    refine ⟨xs, ⟨h1, ?_⟩, h3⟩
    rcases h2 with h2 | ⟨g, cap, cur, a1, a2, a3, a4⟩
    · exact .inl h2
    · exact .inr ⟨g, cap, cur, a1, a2, (hk g (lt_of_block a3) (.inr a2)).trans a3, a4⟩
theorem Env.below (h : Env S B cc yc bc xc oc l p m n A c hs ls cv head W) (hb : Below W.heap.size W W') : Env S B cc yc bc xc oc l p m n A c hs ls cv head W' := h.keep (fun k hk _ => hb.block k hk)
/-- The worth of a part was asked for. -/
theorem Env.memo (h : Env S B cc yc bc xc oc l p m n A c hs ls cv head W) (hb : Board W' S p m n A c hs ls) (hg : W.grownBy W' (some m)) : Env S B cc yc bc xc oc l p m n A c hs ls cv head W' := by
  have hm := h.board.bm
  have hBS := h.BS
  have hz := h.size
  have hx := h.lx
  obtain ⟨D, ⟨es, clock, hmb, _⟩, _⟩ := h.board.map
  have ne : ∀ {k : Nat} {cs : Array Value} {t : TypeId}, W.heap[k]? = some (Obj.cells cs t (0, 0)) → W'.heap[k]? = some (Obj.cells cs t (0, 0)) := fun {k cs t} hk => (hg.block k (lt_of_block hk) (fun e => by injection e with e; subst e; rw [hmb] at hk; cases hk)).trans hk
  refine ⟨ne h.kc, ne h.ky, ne h.kb, ne h.kx, ne h.ko, hb, h.buys.keep (fun q hq => World.cell?_of_block (hg.block q.block (by omega) (fun e => by injection e with e; omega))), ?_, h.lc, h.ly, h.lb, h.lx, h.lo, hBS⟩
  obtain ⟨xs, h1, h3⟩ := h.row
  exact ⟨xs, own_far h1 hg (.inl (own_ne h1 hmb (by simp))), h3⟩
theorem Env.front {z : Int} (h : Env S B cc yc bc xc oc l p m n A c hs ls cv (head ++ [z]) W) : Env S B cc yc bc xc oc l p m n A c hs ls cv head W := by
  obtain ⟨xs, h1, h3⟩ := h.row
  refine ⟨h.kc, h.ky, h.kb, h.kx, h.ko, h.board, h.buys, ⟨xs, h1, ?_⟩, h.lc, h.ly, h.lb, h.lx, h.lo, h.BS⟩
  have := congrArg (List.take head.length) h3
  rw [List.take_take, List.length_append, List.length_singleton, Nat.min_eq_left (by omega)] at this
  rw [this]
  simp
/-- One number more of the choice is laid. -/
theorem Env.put (h : Env S B cc yc bc xc oc l p m n A c hs ls cv head W) (hk : head.length < ls.length) : ∃ g cap v, cv = .slice (some ⟨g, 0, none⟩) ls.length cap ∧ S ≤ g ∧ W.cell? ⟨g, head.length, none⟩ = some (.int .i64 v) ∧ W.frozen? ⟨g, head.length, none⟩ = false ∧
    ∀ z : Int, Env S B cc yc bc xc oc l p m n A c hs ls cv (head ++ [z]) (W.setCell ⟨g, head.length, none⟩ (.int .i64 z)) := by
  obtain ⟨xs, h1, h3⟩ := h.row
  obtain ⟨g, cap, hcv⟩ := Go.Joins.ownsRow_form h1 (by omega)
  have hne : ∀ {k : Nat} {cs : Array Value} {t : TypeId}, W.heap[k]? = some (Obj.cells cs t (0, 0)) → t ≠ 3 → cv.ownBlock ≠ some k := fun hk ht => own_ne h1 hk (fun cur e => by injection e with _ e; exact ht e)
  have nc := hne h.kc (by decide)
  have ny := hne h.ky (by decide)
  have nb := hne h.kb (by decide)
  have nx := hne h.kx (by decide)
  have no := hne h.ko (by decide)
  have npb := hne h.board.blk (by decide)
  obtain ⟨D, ⟨es, clock, hmb, hm2⟩, hm3⟩ := h.board.map
  have nm : cv.ownBlock ≠ some m := own_ne h1 hmb (by simp)
  subst hcv
  have hg := (h1.lt g rfl).1
  have hxl : xs.length = ls.length := by have := h1.1; simpa using this
  have hc : W.cell? ⟨g, head.length, none⟩ = some (.int .i64 xs[head.length]) := by
    rw [h1.cellAt head.length (by omega), List.getElem?_map, List.getElem?_eq_getElem (by omega)]
    rfl
  refine ⟨g, cap, xs[head.length], rfl, hg, hc, h1.frozenAt _, fun z => ?_⟩
  have hst := h1.stored head.length (.int .i64 z)
  have hk' : ∀ k, k ≠ g → (W.setCell ⟨g, head.length, none⟩ (.int .i64 z)).heap[k]? = W.heap[k]? := fun k hk => Below.heap_setCell _ _ _ _ hk
  simp only [Value.ownBlock, ne_eq, Option.some.injEq] at nc ny nb nx no npb nm
  have hBS := h.BS
  have hbu : Buys (W.setCell ⟨g, head.length, none⟩ (.int .i64 z)) B A hs ls := h.buys.keep (fun q hq => World.cell?_of_block (hk' q.block (by omega)))
  refine ⟨(hk' _ (Ne.symm nc)).trans h.kc, (hk' _ (Ne.symm ny)).trans h.ky, (hk' _ (Ne.symm nb)).trans h.kb, (hk' _ (Ne.symm nx)).trans h.kx, (hk' _ (Ne.symm no)).trans h.ko, ⟨(hk' _ (Ne.symm npb)).trans h.board.blk, hbu.more hBS, ⟨D, ⟨es, clock, (hk' _ (Ne.symm nm)).trans hmb, hm2⟩, hm3⟩, h.board.bp, h.board.bm⟩, hbu, ⟨xs.set head.length z, ?_, ?_⟩, h.lc, h.ly, h.lb, h.lx, h.lo, hBS⟩
  · rw [List.map_set]
    exact hst.1
  · rw [List.length_append, List.length_singleton, List.take_add_one, List.take_set_of_le (Nat.le_refl _), h3, List.getElem?_set_self (by omega)]
    rfl
theorem Env.cells (h : Env S B cc yc bc xc oc l p m n A c hs ls cv head W) : W.cell? ⟨cc, 0, none⟩ = some cv ∧ W.cell? ⟨yc, 0, none⟩ = some (.func (.yield l) #[] #[]) ∧ W.cell? ⟨bc, 0, none⟩ = some (.pointer (some ⟨p, 0, none⟩)) ∧ W.cell? ⟨xc, 0, none⟩ = some (.int .i64 n) ∧ W.cell? ⟨xc, 1, none⟩ = some (.slice A ls.length c) ∧
    W.cell? ⟨oc, 0, none⟩ = some (.func (.func 44) #[] #[.pointer (some ⟨cc, 0, none⟩), .pointer (some ⟨yc, 0, none⟩), .pointer (some ⟨bc, 0, none⟩), .pointer (some ⟨xc, 0, none⟩), .pointer (some ⟨oc, 0, none⟩)]) :=
  ⟨cell_of_row W cc 0 _ _ (0, 0) h.kc, cell_of_row W yc 0 _ _ (0, 0) h.ky, cell_of_row W bc 0 _ _ (0, 0) h.kb, cell_of_row W xc 0 _ _ (0, 0) h.kx, cell_of_row W xc 1 _ _ (0, 0) h.kx, cell_of_row W oc 0 _ _ (0, 0) h.ko⟩
end
/-- What comes of an inner call. -/
def OnPost (p : Nat → Prop) (all : List (List Int)) (J Jx : List (Value × List Int) → World → Prop) (S B cc yc bc xc oc l bp m : Nat) (n : Int) (A : Option Addr) (c : Nat) (hs : List Hdr) (ls : List (List Offer)) (cv : Value) (head : List Int) (pre : List (Value × List Int)) (k f : Nat) (W : World) (e : Ending) (W' : World) : Prop :=
  OutP (fun i => p i ∨ cv.ownBlock = some i ∨ i = m) W W' ∧ Env S B cc yc bc xc oc l bp m n A c hs ls cv head W' ∧ ∃ (b : Bool) (pre' : List (Value × List Int)), e = .returned (.bool b) ∧
    ((b = true ∧ pre'.map Prod.snd = pre.map Prod.snd ++ (choicesW (ls.drop k) f).map (fun d => head ++ d) ∧ J pre' W') ∨ (b = false ∧ pre'.map Prod.snd <+: all ∧ Jx pre' W'))
/-- What may come next: the next one of all choices, in memory of its own. -/
def NextC (base : Nat) (all : List (List Int)) (pre : List (Value × List Int)) (x : Value × List Int) (W : World) : Prop :=
  pre.map Prod.snd ++ [x.2] <+: all ∧ W.ownsRow base 3 1 x.1 x.2.length (x.2.map (Value.int .i64))
def encC (x : Value × List Int) : Array Value := #[x.1]
def ownC (x : Value × List Int) (k : Nat) : Prop := x.1.ownBlock = some k
theorem out_low {p q : Nat → Prop} {W0 W W' : World} (h : OutP p W0 W) (h' : OutP q W W') (hq : ∀ i, q i → p i ∨ W0.heap.size ≤ i) : OutP p W0 W' :=
  ⟨Nat.le_trans h.size h'.size, fun k hk hp => (h'.block k (Nat.lt_of_lt_of_le hk h.size) (fun e => (hq k e).elim hp (fun e => by omega))).trans (h.block k hk hp)⟩
theorem out_grown {p : Nat → Prop} {W W' : World} {r : Nat} (h : W.grownBy W' (some r)) (hr : p r) : OutP p W W' := ⟨h.size, fun k hk hp => h.block k hk (fun e => by injection e with e; subst e; exact hp hr)⟩
theorem low_grown {β : Type} {S : Nat} {J : β → World → Prop} (hJ : LowFrom S J) {s : β} {W W' : World} {r : Nat} (hs : J s W) (hg : W.grownBy W' (some r)) (hr : S ≤ r) (hS : S ≤ W.heap.size) : J s W' :=
  hJ s W W' hs ⟨hg.os, hg.tape, hg.output, hg.size, fun k hk => hg.block k (by omega) (fun e => by injection e with e; omega)⟩
end Go.Proofs.Ytkjmpenaifhfjaa
