/- From a law's walk to the given statement; arguments opened to what the walks ask: integers in a slice, structs of integers in a slice. No program is named. -/
import Derived.Test.YtgjeihgkcmheeaaDoorBase
import Derived.ProofKit
import Derived.OpenShut
import Derived.ShutString
import Derived.ChangeOld
import Derived.ChangeSame
import Derived.Deep.Slices
import Derived.Deep.Fields
import Derived.Lib.SmallJoins
namespace Go.Proofs.YtgjeihgkcmheeaaDoor
open Go.ChangeShapes Go.WideShapes Go.ChangeAt Go.RowKit Go.Deep

def LawPost (w : World) (e : Ending) (w' : World) : Prop := e = .returned (.bool true) ∧ Below w.heap.size w w'

section
variable {H : Type} {enc : TypeId × Value → H} {P : Program}

theorem all_below (hl : laidOutB P = true) {W W' : World} (hb : Below W.heap.size W W') : ∀ {ts : List TypeId} {vs : List Value} {ds : List (DataW H)} {ps : List MemPlace},
    (∀ t ∈ ts, P.readableRec t = true ∧ t < P.types.size) → DataW.TrodAll enc P W 0 (fun _ => true) true ts vs ds ps → (∀ x ∈ ps, x.block < W.heap.size) →
    DataW.TrodAll enc P W' 0 (fun b => decide (b < W.heap.size)) true ts vs ds ps
  | [], [], [], ps, _, h, _ => h
  | t :: ts, v :: vs, d :: ds, ps, ht, h, hlt => by
    obtain ⟨p, q, h1, h2, rfl⟩ := h
    have hx := ht t (List.mem_cons_self ..)
    exact ⟨p, q, Below.trod hl hx.1 hx.2 h1 hb (fun x hx => hlt x (List.mem_append_left _ hx)), all_below hl hb (fun t ht' => ht t (List.mem_cons_of_mem _ ht')) h2 (fun x hx => hlt x (List.mem_append_right _ hx)), rfl⟩
  | [], _ :: _, _, _, _, h, _ => h.elim
  | [], [], _ :: _, _, _, h, _ => h.elim
  | _ :: _, [], _, _, _, h, _ => h.elim
  | _ :: _, _ :: _, [], _, _, h, _ => h.elim

/-- A law's post out of its walk: it answers true, and below the heap's old size nothing has turned. -/
theorem law_post {fn : Func} {f : FuncId} {s : ChangeSpec} (hl : laidOutB P = true) {tb : TypeId} (hb : P.underlying tb = some .bool) (hres : fn.resultTypes = #[tb])
    (hp : ∀ t ∈ fn.params.toList, P.readableRec t = true ∧ t < P.types.size) (hv : s.vars = []) {W : World} {args : Array Value} {ds gs : List (DataW H)} {before : List MemPlace}
    (hW : DataW.Whole enc P fn.params.toList s.vars false W args.toList ds gs before) (hs : s.fn H ds = { results := [.lit (.bool true)], args := ds })
    (hc : Calls P f args W (LawPost W)) : Calls P f args W fun e W' => ∃ v, e = .returned v ∧ s.post enc P fn false true false false W args v W' := by
  refine hc.mono fun e W' ⟨he, bel⟩ => ⟨_, he, ?_⟩
  have hlt := fun x hx => hW.lt x hx
  have hW0 := hW
  obtain ⟨p, q, hA, hV, hps, _, _⟩ := hW0
  rw [hv] at hV
  obtain ⟨rfl, rfl⟩ := trodVars_none hV
  have hps' : before = p := by rw [hps]; simp
  have h1 := all_below hl bel hp hA (fun x hx => hlt x (by rw [hps']; exact hx))
  refine ⟨ds, [], before, [], p, [], hW, ?_, ?_, ?_, bel.frame _, fun h => by cases h⟩
  · rw [List.append_nil, hs, hres]
    exact trodAll_mk1 (shut_bool hb _)
  · rw [List.append_nil, hs]
    exact h1
  · rw [List.append_nil, hs, hv]
    rfl

theorem lt_of_cell {w : World} {a : Addr} {v : Value} (h : w.cell? a = some v) : a.block < w.heap.size := by
  rcases Nat.lt_or_ge a.block w.heap.size with hlt | hge
  · exact hlt
  · unfold World.cell? at h
    rw [Array.getElem?_eq_none hge] at h
    simp at h

variable {w : World} {base : Nat} {spare : Nat → Bool} {held : Bool}

/-- A slice of structs, whatever the number of their one-cell fields. -/
theorem open_slice_fields {t e : TypeId} {fs : Array Field} {fuel : Nat} {cs : List Value} {x : DataW H × List MemPlace} (ht : P.underlying t = some (.slice e)) (he : P.underlying e = some (.struct fs))
    (hone : oneCellFields P fs = true) (hC : P.cellsOf e = fs.size) (h : DataW.trod enc P w base spare held fuel t cs = some x) :
    (cs = [.slice none 0 0]) ∨
    ∃ (a : Addr) (len cap m : Nat), cs = [.slice (some a) len cap] ∧ len ≤ cap ∧ cap ≤ maxLen ∧ len ≤ m ∧
      ∀ i, i < m → ∀ (j : Nat) (f : Field), fs[j]? = some f → ∃ (v : Value) (y : DataW H × List MemPlace) (n : Nat), w.cell? (a.add (i * fs.size + j)) = some v ∧ DataW.trod enc P w base spare held n f.type [v] = some y := by
  rcases open_slice ht h with h0 | ⟨a, len, cap, m, n, D, Pl, hcs, hb, hl, hm, hmm, hx, hi⟩
  · exact .inl h0.1
  · refine .inr ⟨a, len, cap, m, hcs, hl, hm, by rw [hmm]; split <;> omega, fun i him => ?_⟩
    obtain ⟨cs', hc, ht'⟩ := hi i him
    rw [hC] at hc
    obtain ⟨ys, n', hn', hy, hlen, hyl, hf⟩ := DataW.trod_struct he ht'
    obtain ⟨_, hcl, hat⟩ := World.cells?_some hc
    intro j f hj
    obtain ⟨ho, hk⟩ := hone_of hone j f hj
    have hjl : j < fs.size := (Array.getElem?_eq_some_iff.1 hj).1
    have hcell := hat j hjl
    have hv : cs'[j]? = some (cs'[j]'(by omega)) := List.getElem?_eq_getElem (by omega)
    have h1 := hf j f hj
    rw [ho, hk] at h1
    have hone' : (cs'.drop j).take 1 = [cs'[j]'(by omega)] := by
      rw [List.drop_eq_getElem_cons (by omega)]
      rfl
    rw [hone'] at h1
    have hys : ys[j]? = some (ys[j]'(by omega)) := List.getElem?_eq_getElem (by omega)
    refine ⟨_, _, n', ?_, h1.trans hys⟩
    rw [← Go.Deep.add_add, hcell, hv]

/-- Structs of integers as they lie in memory. -/
def recs (ks : List IntKind) (xs : List (List Int)) : List Value := xs.flatMap fun x => List.zipWith Value.int ks x
theorem recs_length {ks : List IntKind} : ∀ {xs : List (List Int)}, (∀ x ∈ xs, x.length = ks.length) → (recs ks xs).length = xs.length * ks.length
  | [], _ => by simp [recs]
  | x :: xs, h => by
    have h1 := h x (List.mem_cons_self ..)
    have h2 := recs_length (ks := ks) (xs := xs) (fun y hy => h y (List.mem_cons_of_mem _ hy))
    simp only [recs, List.flatMap_cons, List.length_append, List.length_zipWith, List.length_cons] at h2 ⊢
    rw [h2, h1, Nat.min_self, Nat.add_mul, Nat.one_mul]
    omega
theorem recs_at {ks : List IntKind} (hk : 0 < ks.length) : ∀ {xs : List (List Int)}, (∀ x ∈ xs, x.length = ks.length) → ∀ (q : Nat) (u : Value), (recs ks xs)[q]? = some u →
    ∃ (i j : Nat) (x : List Int) (k : IntKind) (z : Int), q = i * ks.length + j ∧ xs[i]? = some x ∧ ks[j]? = some k ∧ x[j]? = some z ∧ u = .int k z
  | [], _, q, u, h => by simp [recs] at h
  | x :: xs, hx, q, u, h => by
    have h1 := hx x (List.mem_cons_self ..)
    have hl : (List.zipWith Value.int ks x).length = ks.length := by rw [List.length_zipWith, h1, Nat.min_self]
    have e : recs ks (x :: xs) = List.zipWith Value.int ks x ++ recs ks xs := rfl
    rw [e, List.getElem?_append, hl] at h
    split at h
    · rename_i hq
      rw [List.getElem?_zipWith] at h
      rw [List.getElem?_eq_getElem hq, List.getElem?_eq_getElem (by omega)] at h
      injection h with h
      exact ⟨0, q, x, _, _, by omega, rfl, List.getElem?_eq_getElem hq, List.getElem?_eq_getElem (by omega), h.symm⟩
    · obtain ⟨i, j, y, k, z, hq, hy, hkj, hz, hu⟩ := recs_at hk (fun y hy => hx y (List.mem_cons_of_mem _ hy)) _ u h
      exact ⟨i + 1, j, y, k, z, by rw [Nat.add_mul]; omega, by simpa using hy, hkj, hz, hu⟩

/-- A slice of structs of integers reads as a list. -/
theorem open_recs {t e : TypeId} {fs : Array Field} {fuel : Nat} {cs : List Value} {x : DataW H × List MemPlace} (ht : P.underlying t = some (.slice e)) (he : P.underlying e = some (.struct fs))
    (hone : oneCellFields P fs = true) (hC : P.cellsOf e = fs.size) (ks : List IntKind) (hks : ks.length = fs.size) (hpos : 0 < ks.length)
    (hk : ∀ (j : Nat) (f : Field), fs[j]? = some f → ∃ k, ks[j]? = some k ∧ P.underlying f.type = some (.int k)) (h : DataW.trod enc P w base spare held fuel t cs = some x) :
    ∃ (A : Option Addr) (n c : Nat) (xs : List (List Int)), cs = [.slice A n c] ∧ n ≤ c ∧ c ≤ maxLen ∧ xs.length = n ∧ (∀ x ∈ xs, x.length = ks.length) ∧
      (∀ x ∈ xs, ∀ (j : Nat) (k : IntKind) (z : Int), ks[j]? = some k → x[j]? = some z → (Lit.int k z).wf = true) ∧ Reads w w.heap.size ks.length A n (recs ks xs) := by
  rcases open_slice_fields ht he hone hC h with rfl | ⟨a, len, cap, m, rfl, hlc, hcm, hlm, hi⟩
  · exact ⟨none, 0, 0, [], rfl, Nat.le_refl _, by simp [maxLen], rfl, (fun x hx => by cases hx), (fun x hx => by cases hx), by simpa [recs] using Reads.none_ _ _ _⟩
  · have one : ∀ i, i < len → ∃ x : List Int, x.length = ks.length ∧ (∀ (j : Nat) (k : IntKind) (z : Int), ks[j]? = some k → x[j]? = some z → (Lit.int k z).wf = true) ∧
        ∀ (j : Nat) (k : IntKind) (z : Int), ks[j]? = some k → x[j]? = some z → w.cell? (a.add (i * ks.length + j)) = some (.int k z) := by
      intro i hil
      have : ∀ j, j < ks.length → ∃ z : Int, ∀ k, ks[j]? = some k → (Lit.int k z).wf = true ∧ w.cell? (a.add (i * ks.length + j)) = some (.int k z) := by
        intro j hj
        have hf : fs[j]? = some (fs[j]'(by omega)) := Array.getElem?_eq_getElem (by omega)
        obtain ⟨v, y, n, hc, hy⟩ := hi i (by omega) j _ hf
        obtain ⟨k, hkj, hu⟩ := hk j _ hf
        obtain ⟨z, hz, _, hw⟩ := DataW.trod_int hu hy
        have hz' : v = .int k z := by simpa using hz
        refine ⟨z, fun k' hk' => ?_⟩
        have : k' = k := Option.some.inj (hk'.symm.trans hkj)
        subst this
        exact ⟨hw, by rw [hks, hc, hz']⟩
      obtain ⟨Z, hZ⟩ := choose_lt (p := fun j z => ∀ k, ks[j]? = some k → (Lit.int k z).wf = true ∧ w.cell? (a.add (i * ks.length + j)) = some (.int k z)) this
      refine ⟨(List.range ks.length).map Z, by simp, fun j k z hkj hz => ?_, fun j k z hkj hz => ?_⟩
      · have hj : j < ks.length := (List.getElem?_eq_some_iff.1 hkj).1
        simp [List.getElem?_range hj] at hz
        subst hz
        exact (hZ j hj k hkj).1
      · have hj : j < ks.length := (List.getElem?_eq_some_iff.1 hkj).1
        simp [List.getElem?_range hj] at hz
        subst hz
        exact (hZ j hj k hkj).2
    obtain ⟨X, hX⟩ := choose_lt (p := fun (i : Nat) (x : List Int) => x.length = ks.length ∧ (∀ (j : Nat) (k : IntKind) (z : Int), ks[j]? = some k → x[j]? = some z → (Lit.int k z).wf = true) ∧
        ∀ (j : Nat) (k : IntKind) (z : Int), ks[j]? = some k → x[j]? = some z → w.cell? (a.add (i * ks.length + j)) = some (.int k z)) one
    have hmem : ∀ x ∈ (List.range len).map X, ∃ i, i < len ∧ X i = x := by
      intro x hx
      obtain ⟨i, hi, rfl⟩ := List.mem_map.1 hx
      exact ⟨i, List.mem_range.1 hi, rfl⟩
    have hall : ∀ x ∈ (List.range len).map X, x.length = ks.length := by
      intro x hx
      obtain ⟨i, hi, rfl⟩ := hmem x hx
      exact (hX i hi).1
    refine ⟨some a, len, cap, (List.range len).map X, rfl, hlc, hcm, by simp, hall, fun x hx => ?_, ?_, fun hn => ?_⟩
    · obtain ⟨i, hi, rfl⟩ := hmem x hx
      exact (hX i hi).2.1
    · rw [recs_length hall]
      simp
    · have key : ∀ q u, (recs ks ((List.range len).map X))[q]? = some u → w.cell? (a.add q) = some u := by
        intro q u hq
        obtain ⟨i, j, x, k, z, rfl, hx, hkj, hz, rfl⟩ := recs_at hpos hall q u hq
        have hil : i < len := by
          have := (List.getElem?_eq_some_iff.1 hx).1
          simpa using this
        simp [List.getElem?_range hil] at hx
        subst hx
        exact (hX i hil).2.2 j k z hkj hz
      have hlen := recs_length hall
      have hp0 : 0 < (recs ks ((List.range len).map X)).length := by rw [hlen]; simp; exact Nat.mul_pos hn hpos
      have h0 := key 0 _ (List.getElem?_eq_getElem hp0)
      obtain ⟨b, off, spot⟩ := a
      have hspot : spot = none := by simpa [Addr.add] using World.cell?_spot h0
      subst hspot
      refine ⟨b, off, rfl, ?_, fun q u hq => by rw [← add_plain]; exact key q u hq⟩
      have := lt_of_cell h0
      rwa [block_of_add] at this

/-- A slice of integers reads as a list. -/
theorem open_nums {t e : TypeId} {k : IntKind} {fuel : Nat} {cs : List Value} {x : DataW H × List MemPlace} (ht : P.underlying t = some (.slice e)) (he : P.underlying e = some (.int k)) (hC : P.cellsOf e = 1)
    (h : DataW.trod enc P w base spare held fuel t cs = some x) :
    ∃ (A : Option Addr) (n c : Nat) (zs : List Int), cs = [.slice A n c] ∧ n ≤ c ∧ c ≤ maxLen ∧ zs.length = n ∧ (∀ z ∈ zs, (Lit.int k z).wf = true) ∧ Reads w w.heap.size 1 A n (zs.map (Value.int k)) := by
  rcases open_ints ht he hC h with ⟨rfl, hx⟩ | ⟨a, len, cap, zs, rfl, _, hl, hm, hz, hx, hcell, hwz⟩
  · exact ⟨none, 0, 0, [], rfl, Nat.le_refl _, by simp [maxLen], rfl, (fun z hz => by cases hz), by simpa using Reads.none_ _ _ _⟩
  · have hz' : len ≤ zs.length := by
      rw [hz]
      split <;> omega
    refine ⟨some a, len, cap, zs.take len, rfl, hl, hm, by simp; omega, fun z hzm => hwz z (List.mem_of_mem_take hzm), by simp; omega, fun hn => ?_⟩
    obtain ⟨b, off, rfl, hc⟩ := ints_at hcell (by omega)
    refine ⟨b, off, rfl, lt_of_cell (hc 0 (by omega)), fun j u hu => ?_⟩
    rw [List.getElem?_map, List.getElem?_take] at hu
    split at hu
    · rename_i hj
      have hjz : j < zs.length := by omega
      rw [List.getElem?_eq_getElem hjz] at hu
      injection hu with hu
      rw [hc j hjz, ← hu, List.getD_eq_getElem?_getD, List.getElem?_eq_getElem hjz]
      rfl
    · simp at hu
end

#print axioms open_recs
#print axioms open_nums
#print axioms law_post
end Go.Proofs.YtgjeihgkcmheeaaDoor
