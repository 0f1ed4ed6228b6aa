/- A calendar of the program's and one of the document's, side by side. -/
import Derived.Test.YtdaicdaakegdmaaDoC
namespace Go.Proofs.Ytdaicdaakegdmaa
open Go.RowKit Go.Maps Go.Shelf
open Go.ChangeMaps Go.WideMaps

theorem DocW.only {w w' : World} {B q : Nat} {now : Int} {v : Value} {S : List Du} {T : Nat → Prop} (h : DocW w B q now v S) (ho : Only T w w') (hT : ∀ k, (k = q ∨ v.ownBlock = some k) → ¬ T k) : DocW w' B q now v S :=
  ⟨(ho.block _ (lt_of_block h.blk) (hT q (.inl rfl))).trans h.blk, h.row.only ho (fun g hg => hT g (.inr hg)), h.ap, h.base, h.len⟩
structure PairW (w0 : World) (p r x m q : Nat) (v vd : Value) (now now' : Int) (l S S' : List Du) (w : World) : Prop where
  ca : Cal w w0.heap.size p r x m v now l
  ra : RelD l S
  da : DocW w w0.heap.size q now' vd S'
  ap : ∀ k, (k = q ∨ vd.ownBlock = some k) → ¬ (Foot p r m v k ∨ k = x)
  bel : Below w0.heap.size w0 w
section
variable {w0 w w1 : World} {p r x m q : Nat} {v vd v1 : Value} {now now' t : Int} {l S S' l1 S1 : List Du}
theorem PairW.below (h : PairW w0 p r x m q v vd now now' l S S' w) (hb : Below w.heap.size w w1) : PairW w0 p r x m q v vd now now' l S S' w1 :=
  ⟨CalF.below h.ca hb, h.ra, h.da.below hb, h.ap, h.bel.trans (hb.mono h.bel.size)⟩
theorem PairW.turnCal (h : PairW w0 p r x m q v vd now now' l S S' w) (hc : Cal w1 w0.heap.size p r x m v1 t l1) (hr : RelD l1 S1) (ho : Only (Foot p r m v) w w1) (hg : ∀ g, v1.ownBlock = some g → v.ownBlock = some g ∨ w.heap.size ≤ g) :
    PairW w0 p r x m q v1 vd t now' l1 S1 S' w1 := by
  refine ⟨hc, hr, h.da.only ho (fun k hk hf => h.ap k hk (.inl hf)), fun k hk hf => ?_, h.bel.trans (foot_below h.ca ho h.bel.size)⟩
  have hlt : k < w.heap.size := by
    rcases hk with rfl | hk
    · exact lt_of_block h.da.blk
    · exact (h.da.row.at_ k hk).2
  rcases hf with (e | e | e | e) | e
  · exact h.ap k hk (.inl (.inl e))
  · exact h.ap k hk (.inl (.inr (.inl e)))
  · exact h.ap k hk (.inl (.inr (.inr (.inl e))))
  · rcases hg k e with e' | e'
    · exact h.ap k hk (.inl (.inr (.inr (.inr e'))))
    · omega
  · exact h.ap k hk (.inr e)
theorem PairW.turnDoc (h : PairW w0 p r x m q v vd now now' l S S' w) (hd : DocW w1 w0.heap.size q t v1 S1) (ho : Only (fun k => k = q) w w1) (hg : ∀ g, v1.ownBlock = some g → vd.ownBlock = some g ∨ w.heap.size ≤ g) :
    PairW w0 p r x m q v v1 now t l S S1 w1 := by
  refine ⟨CalF.only h.ca ho (fun k hk hq => h.ap k (.inl hq) hk), h.ra, hd, fun k hk hf => ?_, h.bel.trans (ho.below h.bel.size (fun k hq => by rw [hq]; exact h.da.base))⟩
  rcases hk with hk | hk
  · exact h.ap k (.inl hk) hf
  · rcases hg k hk with e | e
    · exact h.ap k (.inr e) hf
    · have := CalF.lt h.ca k hf
      omega
end
end Go.Proofs.Ytdaicdaakegdmaa
