/- An instance out of an argument as it came in. -/
import Derived.Test.YtffpiaipdeebcaaDoorLift
import Derived.Test.YtffpiaipdeebcaaDoorCopy
namespace Go.Proofs.YtffpiaipdeebcaaDoor
open Go.ChangeShapes Go.WideShapes Go.ChangeAt Go.RowKit Go.Deep

theorem cellsO : Tryd.prog.cellsOf 74 = 2 := by kernel_rfl
theorem cellsOs : Tryd.prog.cellsOf 63 = 1 := by kernel_rfl
section
variable {H : Type} {enc : TypeId × Value → H} {w : World} {base : Nat} {spare : Nat → Bool} {held : Bool}

/-- Offers out of structs of two numbers. -/
theorem offs_of {A : Option Addr} {n : Nat} {xs : List (List Int)} (hn : xs.length = n) (hl : ∀ x ∈ xs, x.length = 2) (hw : ∀ x ∈ xs, ∀ (j : Nat) (k : IntKind) (z : Int), [IntKind.u32, IntKind.i64][j]? = some k → x[j]? = some z → (Lit.int k z).wf = true)
    (hr : Reads w w.heap.size 2 A n (recs [.u32, .i64] xs)) : ∃ l : List Offer, l.length = n ∧ Offs w w.heap.size A l ∧ OWide l := by
  have key : recs [.u32, .i64] xs = cells2 offV (xs.map fun x => ((x.getD 0 0).toNat, x.getD 1 0)) := by
    clear hn hr
    induction xs with
    | nil => rfl
    | cons x xs ih =>
      have h1 := ih (fun y hy => hl y (List.mem_cons_of_mem _ hy)) (fun y hy => hw y (List.mem_cons_of_mem _ hy))
      have h2 := hl x (List.mem_cons_self ..)
      have h3 := hw x (List.mem_cons_self ..)
      match x, h2 with
      | [a, b], _ =>
        have ha := bounds_u32 (h3 0 .u32 a rfl rfl)
        have e : recs [.u32, .i64] ([a, b] :: xs) = .int .u32 a :: .int .i64 b :: recs [.u32, .i64] xs := rfl
        have e2 : cells2 offV ((([a, b] : List Int) :: xs).map fun x => ((x.getD 0 0).toNat, x.getD 1 0)) = .int .u32 (a.toNat : Int) :: .int .i64 b :: cells2 offV (xs.map fun x => ((x.getD 0 0).toNat, x.getD 1 0)) := rfl
        rw [e, h1, e2, Int.toNat_of_nonneg ha.1]
  refine ⟨xs.map fun x => ((x.getD 0 0).toNat, x.getD 1 0), by simpa using hn, ?_, ?_⟩
  · unfold Offs Two
    rw [← key, List.length_map, hn]
    exact hr
  · intro y hy
    obtain ⟨x, hx, rfl⟩ := List.mem_map.1 hy
    have h2 := hl x hx
    match x, h2 with
    | [a, b], _ =>
      have ha := bounds_u32 (hw _ hx 0 .u32 a rfl rfl)
      have hb := bounds_i64 (hw _ hx 1 .i64 b rfl rfl)
      exact ⟨by show a.toNat < _; omega, hb.1, hb.2⟩

/-- A list of offers. -/
theorem open_offs {fuel : Nat} {cs : List Value} {x : DataW H × List MemPlace} (h : DataW.trod enc Tryd.prog w base spare held fuel 63 cs = some x) :
    ∃ (A : Option Addr) (l : List Offer) (c : Nat), cs = [.slice A l.length c] ∧ l.length ≤ c ∧ c ≤ maxLen ∧ OWide l ∧ Offs w w.heap.size A l ∧ (A = none → c = 0) := by
  have h0 := open_slice_fields Tryd.underlying63 Tryd.underlying74 (by kernel_rfl) cellsO h
  obtain ⟨A, n, c, xs, e1, hnc, hcm, hxn, hxl, hxw, hr⟩ := open_recs Tryd.underlying63 Tryd.underlying74 (by kernel_rfl) cellsO [.u32, .i64] rfl (by decide) (fun j f hj => by
    match j, hj with
    | 0, hj => exact ⟨.u32, rfl, by simp at hj; subst hj; exact Tryd.underlying25⟩
    | 1, hj => exact ⟨.i64, rfl, by simp at hj; subst hj; exact Tryd.underlying2⟩
    | j + 2, hj => simp at hj) h
  obtain ⟨l, rfl, hb, hwd⟩ := offs_of hxn hxl hxw hr
  refine ⟨A, l, c, e1, hnc, hcm, hwd, hb, fun hA => ?_⟩
  rcases h0 with h0 | ⟨a, len, cap, m, h0, _⟩
  · rw [e1] at h0
    injection h0 with h0
    injection h0
  · rw [e1, hA] at h0
    injection h0 with h0
    injection h0 with h0
    cases h0

/-- A list of buyers. -/
theorem open_buys {fuel : Nat} {cs : List Value} {x : DataW H × List MemPlace} (h : DataW.trod enc Tryd.prog w base spare held fuel 47 cs = some x) :
    ∃ (A : Option Addr) (hs : List Hdr) (ls : List (List Offer)) (c : Nat), cs = [.slice A ls.length c] ∧ ls.length ≤ c ∧ c ≤ maxLen ∧ BWide ls ∧ NilB hs ∧ (∀ l ∈ ls, l.length ≤ maxLen) ∧ Buys w w.heap.size A hs ls := by
  rcases open_slice Tryd.underlying47 h with ⟨rfl, _⟩ | ⟨a, len, cap, m, n, D, Pl, rfl, _, hlc, hcm, hmm, _, hi⟩
  · exact ⟨none, [], [], 0, rfl, Nat.le_refl _, by simp [maxLen], (fun l hl => by cases hl), (fun l hl => by cases hl), (fun l hl => by cases hl), Buys.none_ _ _⟩
  · have hlm : len ≤ m := by rw [hmm]; split <;> omega
    have one : ∀ i, i < len → ∃ q : Option Addr × List Offer × Nat, w.cell? (a.add i) = some (.slice q.1 q.2.1.length q.2.2) ∧ q.2.1.length ≤ q.2.2 ∧ q.2.2 ≤ maxLen ∧ OWide q.2.1 ∧ Offs w w.heap.size q.1 q.2.1 ∧ (q.1 = none → q.2.2 = 0) := by
      intro i hil
      obtain ⟨cs', hc, ht⟩ := hi i (by omega)
      rw [cellsOs, Nat.mul_one] at hc
      obtain ⟨A', l, c', rfl, h1, h2, h3, h4, h5⟩ := open_offs ht
      obtain ⟨_, hcl, hat⟩ := World.cells?_some hc
      refine ⟨(A', l, c'), ?_, h1, h2, h3, h4, h5⟩
      have := hat 0 (by omega)
      rw [Addr.add_zero'] at this
      rw [this]
      rfl
    obtain ⟨q, hq⟩ := choose_lt (p := fun (i : Nat) (q : Option Addr × List Offer × Nat) => w.cell? (a.add i) = some (.slice q.1 q.2.1.length q.2.2) ∧ q.2.1.length ≤ q.2.2 ∧ q.2.2 ≤ maxLen ∧ OWide q.2.1 ∧ Offs w w.heap.size q.1 q.2.1 ∧ (q.1 = none → q.2.2 = 0)) one
    have hmem : ∀ {β : Type} {f : Nat → β} {y : β}, y ∈ (List.range len).map f → ∃ i, i < len ∧ f i = y := by
      intro β f y hy
      obtain ⟨i, hi, rfl⟩ := List.mem_map.1 hy
      exact ⟨i, List.mem_range.1 hi, rfl⟩
    have hlen : ((List.range len).map fun i => (q i).2.1).length = len := by simp
    refine ⟨some a, (List.range len).map fun i => ((q i).1, (q i).2.2), (List.range len).map fun i => (q i).2.1, cap, by rw [hlen], by rw [hlen]; exact hlc, hcm, ?_, ?_, ?_, ⟨by simp, ?_, ?_⟩⟩
    · intro l hl
      obtain ⟨i, hi, rfl⟩ := hmem hl
      exact (hq i hi).2.2.2.1
    · intro hd hh e
      obtain ⟨i, hi, rfl⟩ := hmem hh
      exact (hq i hi).2.2.2.2.2 e
    · intro l hl
      obtain ⟨i, hi, rfl⟩ := hmem hl
      have := hq i hi
      omega
    · rw [hlen]
      refine ⟨by simp, fun hn => ?_⟩
      have h0 := (hq 0 hn).1
      obtain ⟨b, off, spot⟩ := a
      have hspot : spot = none := by simpa [Addr.add] using World.cell?_spot h0
      subst hspot
      refine ⟨b, off, rfl, ?_, fun j u hu => ?_⟩
      · have := lt_of_cell h0
        rwa [block_of_add] at this
      · have hj : j < len := by
          have := (List.getElem?_eq_some_iff.1 hu).1
          simpa using this
        rw [List.getElem?_zipWith] at hu
        simp [List.getElem?_range hj] at hu
        rw [← hu, ← add_plain]
        exact (hq j hj).1
    · intro i hd l hh hl
      have hil : i < len := by
        have := (List.getElem?_eq_some_iff.1 hl).1
        simpa using this
      simp [List.getElem?_range hil] at hh hl
      subst hh hl
      exact ⟨(hq i hil).2.2.2.2.1, (hq i hil).2.1⟩
end
end Go.Proofs.YtffpiaipdeebcaaDoor
