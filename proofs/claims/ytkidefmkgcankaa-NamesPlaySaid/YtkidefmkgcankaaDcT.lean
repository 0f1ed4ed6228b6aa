/- The document's table in memory; its Check, New, Find, Copy, Add. -/
import Derived.Test.YtkidefmkgcankaaFnd
import Derived.Test.YtkidefmkgcankaaKnown
import Derived.Test.YtkidefmkgcankaaNmR
namespace Go.Proofs.Ytkidefmkgcankaa
open Go.RowKit Go.Maps Go.Shelf
open Go.ChangeMaps Go.WideMaps

theorem Only.set {S : Nat → Prop} {w w' : World} (h : Only S w w') (x : Addr) (hx : S x.block) (v : Value) : Only S w (w'.setCell x v) :=
  ⟨h.os, h.tape, h.output, by simpa [World.setCell] using h.size, fun i hi hn => (Below.heap_setCell w' x v i (fun e => hn (e ▸ hx))).trans (h.block i hi hn)⟩

theorem own_form2 {w : World} {B e size n : Nat} {v : Value} {xs : List Value} (h : w.ownsRow B e size v n xs) : ∃ A c, v = .slice A n c ∧ n ≤ c ∧ ((A = none ∧ n = 0 ∧ c = 0) ∨ ∃ b o, A = some ⟨b, o, none⟩) := by
  obtain ⟨A, c, hv, hnc⟩ := own_sh h
  refine ⟨A, c, hv, hnc, ?_⟩
  rcases h.2 with ⟨h1, h2⟩ | ⟨g, cap, cur, h1, _⟩
  · rw [hv] at h1
    injection h1 with h3 h4 h5
    exact .inl ⟨h3, h4, h5⟩
  · rw [hv] at h1
    injection h1 with h3
    exact .inr ⟨g, 0, h3⟩
/-- A list of texts that stands in memory, to be read. -/
structure SeqS (B : Nat) (w : World) (v : Value) (l : List ByteArray) : Prop where
  rd : ∃ A c, v = .slice A l.length c ∧ l.length ≤ c ∧ ((A = none ∧ l.length = 0 ∧ c = 0) ∨ ∃ b o, A = some ⟨b, o, none⟩) ∧ Reads w w.heap.size 1 A l.length (l.map Value.string)
  at_ : ∀ g, v.ownBlock = some g → B ≤ g ∧ g < w.heap.size
theorem SeqS.of_own {B : Nat} {w : World} {v : Value} {l : List ByteArray} (h : w.ownsRow B 9 1 v l.length (l.map Value.string)) : SeqS B w v l := by
  refine ⟨?_, fun g hg => h.lt g hg⟩
  obtain ⟨A, c, rfl, hnc, hA⟩ := own_form2 h
  exact ⟨A, c, rfl, hnc, hA, Reads.of_own h⟩
theorem SeqS.only {B : Nat} {w w' : World} {v : Value} {l : List ByteArray} {T : Nat → Prop} (h : SeqS B w v l) (ho : Only T w w') (hT : ∀ g, v.ownBlock = some g → ¬ T g) : SeqS B w' v l := by
  obtain ⟨⟨A, c, rfl, hnc, hA, hr⟩, ha⟩ := h
  refine ⟨⟨A, c, rfl, hnc, hA, hr.1, fun hn => ?_⟩, fun g hg => ⟨(ha g hg).1, Nat.lt_of_lt_of_le (ha g hg).2 ho.size⟩⟩
  obtain ⟨b, o, rfl, hb, hc⟩ := hr.2 hn
  refine ⟨b, o, rfl, Nat.lt_of_lt_of_le hb ho.size, fun j u hu => ?_⟩
  rw [← hc j u hu]
  exact World.cell?_of_block (w := w) (ho.block b hb (hT b rfl))
theorem SeqS.below {B : Nat} {w w' : World} {v : Value} {l : List ByteArray} (h : SeqS B w v l) (hb : Below w.heap.size w w') : SeqS B w' v l := h.only (T := fun _ => False) (Only.of_below hb) (fun _ _ h => h)
theorem SeqS.text {B : Nat} {w : World} {A : Option Addr} {n c : Nat} {l : List ByteArray} (h : SeqS B w (.slice A n c) l) {k : Nat} {s : ByteArray} (hk : l[k]? = some s) : ∃ g o, A = some ⟨g, o, none⟩ ∧ g < w.heap.size ∧ w.cell? ⟨g, o + k, none⟩ = some (.string s) := by
  obtain ⟨A', c', e, _, _, hr⟩ := h.rd
  injection e with e1 _ _
  subst e1
  obtain ⟨g, o, e, hg, hc⟩ := hr.2 (by have := (List.getElem?_eq_some_iff.1 hk).1; omega)
  exact ⟨g, o, e, hg, hc k (.string s) (by rw [List.getElem?_map, hk]; rfl)⟩
/-- The document's table. -/
structure DocT (w : World) (B q : Nat) (v : Value) (l : List ByteArray) (most : Int) : Prop where
  blk : w.heap[q]? = some (.cells #[v, .int .i64 most] 75 (0, 0))
  row : SeqS B w v l
  ap : ∀ g, v.ownBlock = some g → g ≠ q
  base : B ≤ q
section
variable {w w' : World} {B B' q : Nat} {v : Value} {l : List ByteArray} {most : Int}
theorem DocT.only {T : Nat → Prop} (h : DocT w B q v l most) (ho : Only T w w') (hT : ∀ k, (k = q ∨ v.ownBlock = some k) → ¬ T k) : DocT w' B q v l most :=
  ⟨(ho.block _ (lt_of_block h.blk) (hT q (.inl rfl))).trans h.blk, h.row.only ho (fun g hg => hT g (.inr hg)), h.ap, h.base⟩
theorem DocT.below (h : DocT w B q v l most) (hb : Below w.heap.size w w') : DocT w' B q v l most := h.only (T := fun _ => False) (Only.of_below hb) (fun _ _ h => h)
theorem DocT.lower (h : DocT w B q v l most) (hB : B' ≤ B) : DocT w B' q v l most :=
  ⟨h.blk, ⟨h.row.rd, fun g hg => ⟨Nat.le_trans hB (h.row.at_ g hg).1, (h.row.at_ g hg).2⟩⟩, h.ap, Nat.le_trans hB h.base⟩
theorem DocT.cells (h : DocT w B q v l most) : w.cell? ⟨q, 0, none⟩ = some v ∧ w.cell? ⟨q, 1, none⟩ = some (.int .i64 most) :=
  ⟨cell_of_row w q 0 _ _ (0, 0) h.blk, cell_of_row w q 1 _ _ (0, 0) h.blk⟩
end
end Go.Proofs.Ytkidefmkgcankaa
