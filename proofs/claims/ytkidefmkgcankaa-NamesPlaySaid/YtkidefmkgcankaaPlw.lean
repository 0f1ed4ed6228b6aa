/- A step of NamesPlay, of any kind; what the law holds at its end. -/
import Derived.Test.YtkidefmkgcankaaSt6
namespace Go.Proofs.Ytkidefmkgcankaa
open Go.RowKit Go.Maps Go.Shelf
open Go.ChangeMaps Go.WideMaps

theorem step_any {B M wp : Nat} {X : Bool → Pr} {os : List Pr} {vo vw : Value} {w : World} (h : StW B M wp X os vo vw w) (hos : os.length ≤ 10) (hB : B ≤ w.heap.size) (kind on : Int) (s : ByteArray) (n : Int) (hs : s.size ≤ maxLen) :
    Calls Try.prog 14 #[.pointer (some ⟨wp, 0, none⟩), opS kind on s n] w (StepP B M wp w) := by
  obtain ⟨b, kb, ho⟩ := onW_any on
  by_cases h1 : kind = 1
  · subst h1; exact step1 h hos hB on s n hs ho
  by_cases h2 : kind = 2
  · subst h2; exact step2 h hos hB on s n hs ho
  by_cases h3 : kind = 3
  · subst h3
    by_cases hn : n < 0 ∨ ((X b).l.length : Int) ≤ n
    · exact step3b h hos hB on s n hs ho hn
    · obtain ⟨k, hk⟩ : ∃ k : Nat, n = (k : Int) := ⟨n.toNat, by omega⟩
      have hkl : k < (X b).l.length := by omega
      exact step3a h hos hB on s n hs ho (hide hk) (hide (List.getElem?_eq_getElem hkl))
  by_cases h4 : kind = 4
  · subst h4; exact step4 h hos hB on s n hs ho
  by_cases h5 : kind = 5
  · subst h5; exact step5 h hos hB on s n hs ho
  by_cases h6 : kind = 6
  · subst h6
    by_cases hl : os.length < 10
    · exact step6 h hos hB on s n hs ho hl
    · exact step6f h hos hB on s n hs ho (by omega)
  by_cases h7 : kind = 7
  · subst h7; exact step7 h hos hB on s n hs ho
  exact step0 h hos hB on s n hs ho (by simpa using h1) (by simpa using h2) (by simpa using h3) (by simpa using h4) (by simpa using h5) (by simpa using h6) (by simpa using h7)
/-- The end of the law: all that is told once more. -/
structure EndW (B M wp : Nat) (X : Bool → Pr) (prs : List Pr) (vo vw : Value) (W : World) : Prop where
  rows : RowsW B wp (X false).p (X true).p (X false).q (X true).q (prs.map Pr.p) (prs.map Pr.q) vo vw W
  cur : ∀ b, PrW B M (X b) W
  each : ∀ Y ∈ prs, PrW B M Y W
  own : ∀ k, OwW wp vo vw k → (∀ b, ¬ (X b).All k) ∧ ∀ Y ∈ prs, ¬ Y.All k
section
variable {B M wp : Nat} {X : Bool → Pr} {os prs : List Pr} {vo vw : Value} {W W' : World}
theorem StW.end_ (h : StW B M wp X os vo vw W) : EndW B M wp X os vo vw W := ⟨h.rows, h.prs.cur, h.prs.old, h.own⟩
theorem EndW.below (h : EndW B M wp X prs vo vw W) (hb : Below W.heap.size W W') : EndW B M wp X prs vo vw W' :=
  ⟨h.rows.below hb, fun b => (h.cur b).below hb, fun Y hY => (h.each Y hY).below hb, h.own⟩
theorem RowsW.at_ {k : Nat} (hk : k < 2) {ps qs : List Nat} (hr : RowsW B wp (X false).p (X true).p (X false).q (X true).q ps qs vo vw W) :
    W.cell? ⟨wp, k, none⟩ = some (ptrV (X (decide (k = 1))).p) ∧ W.cell? ⟨wp, 2 + k, none⟩ = some (ptrV (X (decide (k = 1))).q) := by
  have : k = 0 ∨ k = 1 := by omega
  rcases this with rfl | rfl
  · exact ⟨cell_of_row W wp 0 _ _ (0, 0) hr.blk, cell_of_row W wp 2 _ _ (0, 0) hr.blk⟩
  · exact ⟨cell_of_row W wp 1 _ _ (0, 0) hr.blk, cell_of_row W wp 3 _ _ (0, 0) hr.blk⟩
/-- Going over the two lists. -/
theorem EndW.at_ (h : EndW B M wp X prs vo vw W) {k : Nat} (hk : k < prs.length) : ∃ Y g1 g2 c1 c2, Y ∈ prs ∧ vo = .slice (some ⟨g1, 0, none⟩) prs.length c1 ∧ vw = .slice (some ⟨g2, 0, none⟩) prs.length c2 ∧ W.cell? ⟨g1, k, none⟩ = some (ptrV Y.p) ∧ W.cell? ⟨g2, k, none⟩ = some (ptrV Y.q) := by
  have ho := h.rows.ro
  have hq := h.rows.rq
  rw [List.length_map, List.map_map] at ho hq
  have form : ∀ {e : TypeId} {v : Value} {xs : List Value}, W.ownsRow B e 1 v prs.length xs → ∃ g c, v = .slice (some ⟨g, 0, none⟩) prs.length c := fun {e v xs} hr => by
    rcases hr.2 with ⟨_, h1⟩ | ⟨g, cap, cur, h1, _⟩
    · omega
    · exact ⟨g, cap, h1⟩
  obtain ⟨g1, c1, e1⟩ := form ho
  obtain ⟨g2, c2, e2⟩ := form hq
  subst e1 e2
  have a1 := ho.cellAt k (by omega)
  have a2 := hq.cellAt k (by omega)
  rw [List.getElem?_map, List.getElem?_eq_getElem hk] at a1 a2
  exact ⟨prs[k], g1, g2, c1, c2, List.getElem_mem _, rfl, rfl, a1, a2⟩
end
end Go.Proofs.Ytkidefmkgcankaa
