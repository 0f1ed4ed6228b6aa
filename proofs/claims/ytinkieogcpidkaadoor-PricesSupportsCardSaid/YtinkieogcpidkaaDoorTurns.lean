/- A world in which no block has turned but those of a set, and new ones: plain. -/
import Derived.Test.YtinkieogcpidkaaDoorBase
namespace Go.Proofs.YtinkieogcpidkaaDoor
open Go.RowKit

structure Turns (p : Nat → Prop) (w w' : World) : Prop where
  os : w'.os = w.os
  tape : w'.tape = w.tape
  output : w'.output = w.output
  size : w.heap.size ≤ w'.heap.size
  block : ∀ k, k < w.heap.size → ¬ p k → w'.heap[k]? = w.heap[k]?
section
variable {p q : Nat → Prop} {a b c : World}
theorem Turns.refl (p : Nat → Prop) (a : World) : Turns p a a := ⟨rfl, rfl, rfl, Nat.le_refl _, fun _ _ _ => rfl⟩
theorem Turns.next (h : Turns p a b) (k : Turns q b c) (hq : ∀ i, i < a.heap.size → q i → p i) : Turns p a c :=
  ⟨k.os.trans h.os, k.tape.trans h.tape, k.output.trans h.output, Nat.le_trans h.size k.size, fun i hi hn => (k.block i (Nat.lt_of_lt_of_le hi h.size) (fun e => hn (hq i hi e))).trans (h.block i hi hn)⟩
theorem Turns.trans (h : Turns p a b) (k : Turns p b c) : Turns p a c := h.next k (fun _ _ e => e)
theorem Turns.mono (h : Turns p a b) (hq : ∀ k, k < a.heap.size → p k → q k) : Turns q a b := ⟨h.os, h.tape, h.output, h.size, fun i hi hn => h.block i hi (fun e => hn (hq i hi e))⟩
theorem Turns.of_below (h : Below a.heap.size a b) : Turns p a b := ⟨h.os, h.tape, h.output, h.size, fun i hi _ => h.block i hi⟩
theorem Turns.of_grown {row : Option Nat} (h : a.grownBy b row) : Turns (fun k => row = some k) a b := ⟨h.os, h.tape, h.output, h.size, fun i hi hn => h.block i hi (fun e => hn e.symm)⟩
theorem Turns.of_set (a : World) (x : Addr) (v : Value) : Turns (fun k => k = x.block) a (a.setCell x v) :=
  ⟨rfl, rfl, rfl, by simp [World.setCell], fun i _ hn => Below.heap_setCell a x v i hn⟩
theorem Turns.below (h : Turns p a b) {B : Nat} (hB : B ≤ a.heap.size) (hp : ∀ k, k < B → ¬ p k) : Below B a b := ⟨h.os, h.tape, h.output, h.size, fun i hi => h.block i (Nat.lt_of_lt_of_le hi hB) (hp i hi)⟩
theorem Turns.own {B e size n : Nat} {v : Value} {xs : List Value} (ht : Turns p a b) (h : a.ownsRow B e size v n xs) (hn : ∀ k, v.ownBlock = some k → ¬ p k) : b.ownsRow B e size v n xs := by
  obtain ⟨h1, h2⟩ := h
  refine ⟨h1, ?_⟩
  rcases h2 with h2 | ⟨g, cap, cur, rfl, hb, hg, r⟩
  · exact .inl h2
  · exact .inr ⟨g, cap, cur, rfl, hb, (ht.block g (lt_of_block hg) (hn g rfl)).trans hg, r⟩
end
end Go.Proofs.YtinkieogcpidkaaDoor
