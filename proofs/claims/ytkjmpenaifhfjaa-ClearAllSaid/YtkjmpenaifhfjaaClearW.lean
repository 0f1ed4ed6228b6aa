/- The walk of (*clear.board).w: it is the greatest worth of a part. -/
import Derived.Test.YtkjmpenaifhfjaaInstW
import Derived.Test.YtkjmpenaifhfjaaBestS
import Derived.StillTailTactics
import Derived.DeepKeys4
namespace Go.Proofs.Ytkjmpenaifhfjaa
open Go.RowKit Go.Maps
open Go.ChangeMaps Go.WideMaps

theorem lawP : Keyed Try.prog 93 := Keyed.of_law (deep_law_laid (by kernel_rfl) (m := 5) (by decide) (of_decide_eq_true (by kernel_rfl)) (by kernel_rfl) (by kernel_rfl))
theorem typesPos : 0 < Try.prog.types.size := of_decide_eq_true (by kernel_rfl)
theorem someTypes : ∃ m, Try.prog.types.size = m + 1 := by
  have h := typesPos
  generalize Try.prog.types.size = z at *
  exact ⟨z - 1, by omega⟩
theorem keyTypeP : Try.prog.keyType 93 = true := by kernel_rfl
theorem cellsP : Try.prog.cellsOf 93 = 2 := by kernel_rfl
theorem cellsI : Try.prog.cellsOf 3 = 1 := by kernel_rfl
theorem cellsG : Try.prog.cellsOf 26 = 1 := by kernel_rfl
theorem name_k : "k" ≠ "_" := by decide
theorem name_free : "free" ≠ "_" := by decide
set_option maxRecDepth 100000 in
theorem keyP (k f : Nat) (hk : k < 1000) (hf : f < 4294967296) : keyOf Try.prog 93 (.agg #[.int .i64 (k : Int), .int .u32 (f : Int)]) = some (placeKey k f) :=
  keyOf_place Try.underlying93 Try.underlying3 Try.underlying26 keyTypeP cellsP cellsI cellsG rfl rfl name_k name_free someTypes k f hk hf
theorem zero64 (w : World) : (zeroValue 2).run Try.prog w = .ok (.int .i64 0) w := by kernel_rfl

structure Board (w : World) (B p m : Nat) (n : Int) (A : Option Addr) (c : Nat) (hs : List Hdr) (ls : List (List Offer)) : Prop where
  blk : w.heap[p]? = some (.cells #[.int .i64 n, .slice A ls.length c, .map (some m)] 91 (0, 0))
  buys : Buys w B A hs ls
  map : ∃ D, w.ownsMap Try.prog 93 (plainElem Try.prog 2) m (ls.length * 2 ^ n.toNat) D ∧ Memo ls (2 ^ n.toNat) D
  bp : B ≤ p
  bm : B ≤ m
section
variable {w w' : World} {B p m : Nat} {n : Int} {A : Option Addr} {c : Nat} {hs : List Hdr} {ls : List (List Offer)}
theorem Board.pm (h : Board w B p m n A c hs ls) : p ≠ m := by
  rintro rfl
  obtain ⟨D, ⟨es, clock, hb, _⟩, _⟩ := h.map
  rw [h.blk] at hb
  cases hb
theorem Board.lt (h : Board w B p m n A c hs ls) : p < w.heap.size ∧ m < w.heap.size := by
  obtain ⟨D, ⟨es, clock, hb, _⟩, _⟩ := h.map
  exact ⟨lt_of_block h.blk, lt_of_block hb⟩
theorem Board.grown (h : Board w B p m n A c hs ls) (hg : w.grownBy w' none) : Board w' B p m n A c hs ls := by
  have hl := h.lt
  refine ⟨(hg.block p hl.1 (by simp)).trans h.blk, h.buys.keep (fun q hq => ?_), ?_, h.bp, h.bm⟩
  · exact World.cell?_of_block (hg.block q.block (by have := h.bp; omega) (by simp))
  · obtain ⟨D, h1, h2⟩ := h.map
    exact ⟨D, h1.kept hg (by simp), h2⟩
/-- Only the memo's block, and what is new, has turned. -/
theorem Board.turned (h : Board w B p m n A c hs ls) (hg : w.grownBy w' (some m)) {D : DataW Unit} {q : Nat} (hown : w'.ownsMap Try.prog 93 (plainElem Try.prog 2) m q D) (hD : Memo ls (2 ^ n.toNat) D) : Board w' B p m n A c hs ls := by
  have hl := h.lt
  refine ⟨(hg.block p hl.1 (by have := h.pm; simpa using this)).trans h.blk, h.buys.keep (fun q hq => ?_), ⟨D, hD.few lawP hown, hD⟩, h.bp, h.bm⟩
  have := h.bm
  exact World.cell?_of_block (hg.block q.block (by omega) (by simp; omega))
theorem Board.cells (h : Board w B p m n A c hs ls) : w.cell? ⟨p, 0, none⟩ = some (.int .i64 n) ∧ w.cell? ⟨p, 1, none⟩ = some (.slice A ls.length c) ∧ w.cell? ⟨p, 2, none⟩ = some (.map (some m)) :=
  ⟨cell_of_row w p 0 _ _ (0, 0) h.blk, cell_of_row w p 1 _ _ (0, 0) h.blk, cell_of_row w p 2 _ _ (0, 0) h.blk⟩
end
theorem grown_alloc (w : World) (o : Obj) (row : Option Nat) : w.grownBy (w.alloc o) row := World.grownBy_alloc w o row
theorem grown_drewN {w w' : World} {row : Option Nat} (h : w.grownBy w' row) (n : Nat) : w.grownBy (w'.drewN n) row := ⟨h.os, h.tape, h.output, h.size, h.block⟩
theorem grown_any {w w' : World} (h : w.grownBy w' none) (row : Option Nat) : w.grownBy w' row := ⟨h.os, h.tape, h.output, h.size, fun i hi _ => h.block i hi (by simp)⟩

def WPost (B p m : Nat) (n : Int) (A : Option Addr) (c : Nat) (hs : List Hdr) (ls : List (List Offer)) (v : Int) (w : World) (e : Ending) (w' : World) : Prop :=
  e = .returned (.int .i64 v) ∧ Board w' B p m n A c hs ls ∧ w.grownBy w' (some m)

theorem lookP {w : World} {m q : Nat} {ls : List (List Offer)} {top : Nat} {D : DataW Unit} (hown : w.ownsMap Try.prog 93 (plainElem Try.prog 2) m q D) (hD : Memo ls top D) (k f : Nat) (hk : k < 1000) (hf : f < 4294967296) :
    (has D (placeKey k f) = true ∧ ∀ d, (Instr.lookup 89 (.map (some m)) (.agg #[.int .i64 (k : Int), .int .u32 (f : Int)]) true).run Try.prog (w.drewN d) = .ok (.tuple #[.int .i64 (bestW (ls.drop k) f), .bool true]) (w.drewN d)) ∨
    (has D (placeKey k f) = false ∧ ∀ d, (Instr.lookup 89 (.map (some m)) (.agg #[.int .i64 (k : Int), .int .u32 (f : Int)]) true).run Try.prog (w.drewN d) = .ok (.tuple #[.int .i64 0, .bool false]) (w.drewN d)) := by
  have key := fun d => World.ownsMap.look_ok (w := w.drewN d) hown lawP Try.underlying89 (zero64 _) (zd := (ZU : DataW Unit)) (zp := []) (plainElem_int Try.underlying2 (by decide)) (keyP k f hk hf)
  cases hh : has D (placeKey k f) with
  | true =>
    left
    refine ⟨rfl, fun d => ?_⟩
    obtain ⟨v, ps, h1, h2⟩ := key d
    rw [hh] at h1
    rw [hD.good k f hh hk hf] at h2
    obtain ⟨z, rfl, hz, _⟩ := plainElem_int_inv Try.underlying2 h2
    simp at hz
    rw [h1, hz.1]
  | false =>
    right
    refine ⟨rfl, fun d => ?_⟩
    obtain ⟨v, ps, h1, h2⟩ := key d
    rw [hh] at h1
    rw [atKey_of_not_has hh] at h2
    obtain ⟨z, rfl, hz, _⟩ := plainElem_int_inv Try.underlying2 h2
    simp at hz
    rw [h1, hz.1]

set_option maxRecDepth 100000 in
set_option maxHeartbeats 2000000 in
theorem w_end (B p m : Nat) (n : Int) (A : Option Addr) (c : Nat) (hs : List Hdr) (ls : List (List Offer)) (hl : ls.length ≤ 32) (f : Nat) (w : World) (hb : Board w B p m n A c hs ls) :
    Calls Try.prog 30 #[.pointer (some ⟨p, 0, none⟩), .int .i64 (ls.length : Int), .int .u32 (f : Int)] w (WPost B p m n A c hs ls 0 w) := by
  obtain ⟨c0, c1, c2⟩ := hb.cells
  have HB := hide hb
  clear hb
  go_enter Try.func30, Try.ntmps30
  go_wp2_with fail
  go_step3
  go_wp2_with fail
  rw [Exit.noGoto_ret]
  go_ret
  exact ⟨rfl, HB.out, World.grownBy.refl _ _⟩
set_option maxRecDepth 100000 in
set_option maxHeartbeats 2000000 in
theorem w_zero (B p m : Nat) (n : Int) (A : Option Addr) (c : Nat) (hs : List Hdr) (ls : List (List Offer)) (hl : ls.length ≤ 32) (k : Nat) (hk : k < ls.length) (w : World) (hb : Board w B p m n A c hs ls) :
    Calls Try.prog 30 #[.pointer (some ⟨p, 0, none⟩), .int .i64 (k : Int), .int .u32 0] w (WPost B p m n A c hs ls 0 w) := by
  obtain ⟨c0, c1, c2⟩ := hb.cells
  have HB := hide hb
  clear hb
  have h1 : ((k : Int) == (ls.length : Int)) = false := by simp; omega
  go_enter Try.func30, Try.ntmps30
  go_wp2_with fail
  go_step3
  go_wp2_with fail
  rw [Exit.noGoto_ret]
  go_ret
  exact ⟨rfl, HB.out, World.grownBy.refl _ _⟩
set_option maxRecDepth 100000 in
set_option maxHeartbeats 2000000 in
theorem w_hit (B p m : Nat) (n : Int) (A : Option Addr) (c : Nat) (hs : List Hdr) (ls : List (List Offer)) (hl : ls.length ≤ 32) (k f : Nat) (hk : k < ls.length) (hf : f < 4294967296) (hf0 : f ≠ 0) (w : World) (hb : Board w B p m n A c hs ls)
    (hlk : ∀ ob d, (Instr.lookup 89 (.map (some m)) (.agg #[.int .i64 (k : Int), .int .u32 (f : Int)]) true).run Try.prog ((w.alloc ob).drewN d) = .ok (.tuple #[.int .i64 (bestW (ls.drop k) f), .bool true]) ((w.alloc ob).drewN d)) :
    Calls Try.prog 30 #[.pointer (some ⟨p, 0, none⟩), .int .i64 (k : Int), .int .u32 (f : Int)] w (WPost B p m n A c hs ls (bestW (ls.drop k) f) w) := by
  obtain ⟨c0, c1, c2⟩ := hb.cells
  have hp := hb.lt.1
  have d2 : ∀ ob, (w.alloc ob).cell? ⟨p, 2, none⟩ = some (.map (some m)) := fun ob => (World.cell?_alloc_lt w ob ⟨p, 2, none⟩ hp).trans c2
  have HB := hide hb
  clear hb
  generalize bestW (ls.drop k) f = v at *
  have h1 : ((k : Int) == (ls.length : Int)) = false := by simp; omega
  have h2 : ((f : Int) == 0) = false := by simp; omega
  clear hf0
  go_enter Try.func30, Try.ntmps30
  go_wp2_with fail
  go_step3
  go_wp2_with fail
  go_quiet (fail)
  go_wp2_with fail
  rw [Exit.noGoto_ret]
  go_ret
  exact ⟨rfl, HB.out.grown (grown_drewN (grown_alloc _ _ _) _), grown_drewN (grown_alloc _ _ _) _⟩
end Go.Proofs.Ytkjmpenaifhfjaa
