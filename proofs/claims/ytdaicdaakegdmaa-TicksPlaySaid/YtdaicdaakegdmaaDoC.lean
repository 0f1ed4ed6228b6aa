/- The document's calendar: Copy. -/
import Derived.Test.YtdaicdaakegdmaaDoU
namespace Go.Proofs.Ytdaicdaakegdmaa
open Go.RowKit Go.Maps Go.Shelf
open Go.ChangeMaps Go.WideMaps

section
variable {w w' : World} {B q : Nat} {now : Int} {v : Value} {S : List Du}
/-- What the document's Copy leaves: another calendar over the same list. -/
def CopyD (B : Nat) (now : Int) (v : Value) (S : List Du) (w : World) (e : Ending) (w' : World) : Prop :=
  ∃ q', e = .returned (.pointer (some ⟨q', 0, none⟩)) ∧ DocW w' B q' now v S ∧ Below w.heap.size w w' ∧ w.heap.size ≤ q'
set_option maxRecDepth 100000 in
set_option maxHeartbeats 2000000 in
theorem docCopy_any (h : DocW w B q now v S) (hBw : B ≤ w.heap.size) : Calls Try.prog 20 #[.pointer (some ⟨q, 0, none⟩)] w (CopyD B now v S w) := by
  obtain ⟨c0, c1⟩ := h.cells
  obtain ⟨A, c, rfl, _, _, _⟩ := h.row.rd
  have HB : Hid (Below w.heap.size w (w.alloc (.cells #[.int .i64 now, .slice A S.length c] 45))) := hide ((Below.refl _ _).alloc (Nat.le_refl _) _)
  have HD : Hid (DocW (w.alloc (.cells #[.int .i64 now, .slice A S.length c] 45)) B w.heap.size now (.slice A S.length c) S) := hide ⟨heap_alloc_new w _, h.row.below HB.out, fun g hg e => by have := (h.row.at_ g hg).2; omega, hBw, h.len⟩
  clear h
  go_enter Try.func20, Try.ntmps20
  go_wp2_with fail
  go_ret
  exact ⟨w.heap.size, rfl, HD.out, HB.out, Nat.le_refl _⟩
end
end Go.Proofs.Ytdaicdaakegdmaa
