/- The greatest worth of a part, the best choice, by definition; what a memo of worths is. No program is named. -/
import Derived.Test.YtffpiaipdeebcaaDoorOff
import Derived.Maps.Own
import Derived.Maps.OwnOps
import Derived.Maps.OwnSet
import Derived.Maps.Views
import Derived.Maps.Range
import Derived.ChangeKeys
namespace Go.Proofs.YtffpiaipdeebcaaDoor
open Go.RowKit Go.Maps
open Go.ChangeMaps Go.WideMaps

def stepW (rest : Nat → Int) (f : Nat) (b : Int) (o : Offer) : Int := if withinB o.1 f = true then max b (o.2 + rest (lessG f o.1)) else b
def bestW : List (List Offer) → Nat → Int
  | [], _ => 0
  | l :: ls, f => l.foldl (stepW (bestW ls) f) (bestW ls f)
/-- Offers that may be of instances: of some goods, of at least one coin. -/
def GoodO (l : List Offer) : Prop := ∀ o ∈ l, 0 < o.1 ∧ o.1 < 4294967296 ∧ 1 ≤ o.2 ∧ o.2 ≤ 1099511627776
def GoodB (ls : List (List Offer)) : Prop := ∀ l ∈ ls, GoodO l

theorem stepW_bd {rest : Nat → Int} {f : Nat} {b : Int} {o : Offer} {M : Int} (h : ∀ g, 0 ≤ rest g ∧ rest g ≤ M) (hb : 0 ≤ b ∧ b ≤ M + 1099511627776) (ho : 1 ≤ o.2 ∧ o.2 ≤ 1099511627776) : 0 ≤ stepW rest f b o ∧ stepW rest f b o ≤ M + 1099511627776 := by
  unfold stepW
  have := h (lessG f o.1)
  split
  · omega
  · exact hb
theorem foldW_bd {rest : Nat → Int} {f : Nat} {M : Int} (h : ∀ g, 0 ≤ rest g ∧ rest g ≤ M) : ∀ (l : List Offer) (b : Int), GoodO l → 0 ≤ b ∧ b ≤ M + 1099511627776 → 0 ≤ l.foldl (stepW rest f) b ∧ l.foldl (stepW rest f) b ≤ M + 1099511627776
  | [], b, _, hb => hb
  | o :: l, b, hl, hb => by
    have ho := hl o (List.mem_cons_self ..)
    exact foldW_bd h l _ (fun x hx => hl x (List.mem_cons_of_mem _ hx)) (stepW_bd h hb ⟨ho.2.2.1, ho.2.2.2⟩)
theorem bestW_bd : ∀ (ls : List (List Offer)), GoodB ls → ∀ f, 0 ≤ bestW ls f ∧ bestW ls f ≤ ls.length * 1099511627776
  | [], _, f => by simp [bestW]
  | l :: ls, h, f => by
    have ih := bestW_bd ls (fun x hx => h x (List.mem_cons_of_mem _ hx))
    have h1 := ih f
    have := foldW_bd (f := f) (M := ls.length * 1099511627776) ih l (bestW ls f) (h l (List.mem_cons_self ..)) (by omega)
    simp only [bestW, List.length_cons]
    omega
theorem lessG_zero (a : Nat) (ha : a < 4294967296) : lessG a 0 = a := by
  apply Nat.eq_of_testBit_eq
  intro i
  rw [lessG_bit a 0 i ha (by omega)]
  simp
theorem within_zero (a : Nat) (h : 0 < a) (ha : a < 4294967296) : withinB a 0 = false := by
  unfold withinB
  rw [lessG_zero a ha]
  simp
  omega
theorem bestW_zero : ∀ (ls : List (List Offer)), GoodB ls → bestW ls 0 = 0
  | [], _ => rfl
  | l :: ls, h => by
    have ih := bestW_zero ls (fun x hx => h x (List.mem_cons_of_mem _ hx))
    simp only [bestW, ih]
    have hl := h l (List.mem_cons_self ..)
    have : ∀ (l : List Offer), GoodO l → l.foldl (stepW (bestW ls) 0) 0 = 0 := by
      intro l
      induction l with
      | nil => intro _; rfl
      | cons o l ih2 =>
        intro hl
        have ho := hl o (List.mem_cons_self ..)
        simp only [List.foldl_cons]
        have : stepW (bestW ls) 0 0 o = 0 := by unfold stepW; rw [within_zero o.1 ho.1 ho.2.1]; simp
        rw [this]
        exact ih2 (fun x hx => hl x (List.mem_cons_of_mem _ hx))
    exact this l hl
theorem bestW_step (ls : List (List Offer)) (k : Nat) (l : List Offer) (h : ls[k]? = some l) (f : Nat) : bestW (ls.drop k) f = l.foldl (stepW (bestW (ls.drop (k + 1))) f) (bestW (ls.drop (k + 1)) f) := by
  obtain ⟨hk, rfl⟩ := List.getElem?_eq_some_iff.1 h
  rw [List.drop_eq_getElem_cons hk]
  rfl
theorem GoodB.drop {ls : List (List Offer)} (h : GoodB ls) (k : Nat) : GoodB (ls.drop k) := fun l hl => h l (List.mem_of_mem_drop hl)

/-- The best choice of a part, buyer by buyer. -/
def hitB (rest : Nat → Int) (left : Int) (f : Nat) (o : Offer) : Bool := withinB o.1 f && o.2 + rest (lessG f o.1) == left
def goesG (l : List Offer) (n : Int) (f : Nat) : Nat := if n < 0 then f else lessG f ((l[n.toNat]?).getD (0, 0)).1
def pick (l : List Offer) (ls : List (List Offer)) (f : Nat) : Int := idxTo (hitB (bestW ls) (bestW (l :: ls) f) f) l
def choiceW : List (List Offer) → Nat → List Int
  | [], _ => []
  | l :: ls, f => pick l ls f :: choiceW ls (goesG l (pick l ls f) f)
def choiceK (ls : List (List Offer)) (k f : Nat) : List Int := List.replicate k (-1) ++ choiceW (ls.drop k) f
theorem choiceW_len : ∀ (ls : List (List Offer)) (f : Nat), (choiceW ls f).length = ls.length
  | [], _ => rfl
  | l :: ls, f => by simp [choiceW, choiceW_len ls]
theorem choiceK_len (ls : List (List Offer)) (k f : Nat) (h : k ≤ ls.length) : (choiceK ls k f).length = ls.length := by
  simp [choiceK, choiceW_len]
  omega
/-- What is free ahead of buyer i. -/
def freeAt (ls : List (List Offer)) (k f : Nat) : Nat → Nat
  | 0 => f
  | i + 1 => if i < k then freeAt ls k f i else goesG ((ls[i]?).getD []) (pick ((ls[i]?).getD []) (ls.drop (i + 1)) (freeAt ls k f i)) (freeAt ls k f i)
def numAt (ls : List (List Offer)) (k f i : Nat) : Int := if i < k then -1 else pick ((ls[i]?).getD []) (ls.drop (i + 1)) (freeAt ls k f i)
theorem freeAt_low (ls : List (List Offer)) (k f : Nat) : ∀ i, i ≤ k → freeAt ls k f i = f
  | 0, _ => rfl
  | i + 1, h => by rw [freeAt, if_pos (by omega), freeAt_low ls k f i (by omega)]
theorem choiceW_at (ls : List (List Offer)) (k f : Nat) (hk : k ≤ ls.length) : ∀ i, k + i ≤ ls.length → choiceW (ls.drop k) f = (List.range i).map (fun j => numAt ls k f (k + j)) ++ choiceW (ls.drop (k + i)) (freeAt ls k f (k + i))
  | 0, _ => by simp [freeAt_low ls k f k (Nat.le_refl _)]
  | i + 1, h => by
    rw [choiceW_at ls k f hk i (by omega), List.range_succ, List.map_append, List.append_assoc]
    congr 1
    have hlt : k + i < ls.length := by omega
    have hg : (ls[k + i]?).getD [] = ls[k + i] := by rw [List.getElem?_eq_getElem hlt]; rfl
    rw [List.drop_eq_getElem_cons hlt]
    simp only [choiceW, List.map_cons, List.map_nil, List.singleton_append]
    have e1 : pick ls[k + i] (ls.drop (k + i + 1)) (freeAt ls k f (k + i)) = numAt ls k f (k + i) := by
      unfold numAt
      rw [if_neg (by omega), hg]
    have e2 : freeAt ls k f (k + (i + 1)) = goesG ls[k + i] (pick ls[k + i] (ls.drop (k + i + 1)) (freeAt ls k f (k + i))) (freeAt ls k f (k + i)) := by
      show freeAt ls k f ((k + i) + 1) = _
      rw [freeAt, if_neg (by omega), hg]
    rw [e2, e1]
    rfl
theorem choiceK_at (ls : List (List Offer)) (k f : Nat) (hk : k ≤ ls.length) : choiceK ls k f = (List.range ls.length).map (numAt ls k f) := by
  unfold choiceK
  rw [choiceW_at ls k f hk (ls.length - k) (by omega)]
  have e1 : k + (ls.length - k) = ls.length := by omega
  rw [e1, List.drop_length]
  have e2 : List.replicate k (-1 : Int) = (List.range k).map (numAt ls k f) := by
    apply List.ext_getElem
    · simp
    · intro i h1 h2
      simp at h1
      simp [numAt, h1]
  rw [e2]
  simp only [choiceW, List.append_nil]
  apply List.ext_getElem
  · simp; omega
  · intro i h1 h2
    simp only [List.length_append, List.length_map, List.length_range] at h1
    rw [List.getElem_append]
    split
    · simp
    · rename_i h3
      simp only [List.length_map, List.length_range] at h3
      simp only [List.getElem_map, List.getElem_range, List.length_map, List.length_range]
      rw [show k + (i - k) = i from by omega]

/-! ### A memo of worths -/
abbrev ZU : DataW Unit := .lit (.int .i64 0)
def placeKey (k f : Nat) : Lit := .string (keyBytes [.int .i64 (k : Int), .int .u32 (f : Int)])
structure Memo (ls : List (List Offer)) (top : Nat) (D : DataW Unit) : Prop where
  map : IsMap D
  good : ∀ k f, has D (placeKey k f) = true → k < 1000 → f < 4294967296 → D.atKey (placeKey k f) ZU = .lit (.int .i64 (bestW (ls.drop k) f))
  keys : ∃ es, D = .map es ∧ ∀ p ∈ es, ∃ k f, k < ls.length ∧ f < top ∧ p.1 = placeKey k f
theorem wf_i64n (k : Nat) (h : k < 1000) : (Lit.int .i64 (k : Int)).wf = true := WalkArith.wf_i64 (by omega)
theorem wf_u32n (f : Nat) (h : f < 4294967296) : (Lit.int .u32 (f : Int)).wf = true := WalkArith.wf_u32 (by omega)
theorem placeKey_inj {k f k' f' : Nat} (hk : k < 1000) (hf : f < 4294967296) (hk' : k' < 1000) (hf' : f' < 4294967296) (h : placeKey k f = placeKey k' f') : k = k' ∧ f = f' := by
  injection h with h
  have key : ∀ (k f : Nat), k < 1000 → f < 4294967296 → ∀ a ∈ [Lit.int .i64 (k : Int), .int .u32 (f : Int)], a.keyWf := by
    intro k f hk hf a ha
    simp at ha
    rcases ha with rfl | rfl
    · exact wf_i64n k hk
    · exact wf_u32n f hf
  have := keyBytes_inj (l := [Lit.int .i64 (k : Int), .int .u32 (f : Int)]) (l' := [Lit.int .i64 (k' : Int), .int .u32 (f' : Int)]) ⟨rfl, rfl, trivial⟩ (key k f hk hf) (key k' f' hk' hf') h
  simp at this
  omega
theorem isKey_place (k f : Nat) : WideAt.IsKeyLit (placeKey k f) := by trivial
theorem mem_put {D : DataW Unit} {kl : Lit} {d : DataW Unit} {es : List (Lit × DataW Unit)} (hD : D = .map es) : ∃ es', D.put kl d = .map es' ∧ ∀ p ∈ es', p = (kl, d) ∨ p ∈ es := by
  subst hD
  refine ⟨_, rfl, fun p hp => ?_⟩
  rcases mem_insert_iff.1 hp with h | h
  · exact .inl h
  · exact .inr (List.mem_filter.1 h).1
section
variable {ls : List (List Offer)} {top : Nat} {D : DataW Unit}
theorem Memo.nil : Memo ls top (.map []) := ⟨⟨_, rfl⟩, fun k f h => by simp [has] at h, ⟨[], rfl, fun p hp => by cases hp⟩⟩
theorem Memo.put (h : Memo ls top D) {k f : Nat} (hk : k < ls.length) (hf : f < top) (hl : ls.length ≤ 1000) (ht : top ≤ 4294967296) :
    Memo ls top (D.put (placeKey k f) (.lit (.int .i64 (bestW (ls.drop k) f)))) := by
  obtain ⟨es, hD, hes⟩ := h.keys
  obtain ⟨es', hD', hes'⟩ := mem_put (kl := placeKey k f) (d := (.lit (.int .i64 (bestW (ls.drop k) f)) : DataW Unit)) hD
  refine ⟨⟨_, hD'⟩, fun k2 f2 h2 hk2 hf2 => ?_, ⟨es', hD', fun p hp => ?_⟩⟩
  · by_cases e : placeKey k2 f2 = placeKey k f
    · obtain ⟨rfl, rfl⟩ := placeKey_inj hk2 hf2 (by omega) (by omega) e
      exact atKey_put_same h.map (isKey_place _ _) _ _
    · rw [atKey_put_other e]
      rw [has_put_other e] at h2
      exact h.good k2 f2 h2 hk2 hf2
  · rcases hes' p hp with rfl | h3
    · exact ⟨k, f, hk, hf, rfl⟩
    · exact hes p h3
theorem Memo.few {P : Program} {kt : TypeId} {R : Value → Option (DataW Unit × List MemPlace)} {w : World} {b n : Nat} (h : Memo ls top D) (K : Keyed P kt) (hown : w.ownsMap P kt R b n D) : w.ownsMap P kt R b (ls.length * top) D := by
  obtain ⟨es, hD, hnd, _⟩ := hown.entries K
  obtain ⟨hp, clock, hb, F, hs, hD2⟩ := hown
  refine ⟨hp, clock, hb, F, ?_, hD2⟩
  obtain ⟨es2, hD3, hes⟩ := h.keys
  have e1 : es = es2 := by rw [hD] at hD3; injection hD3
  subst e1
  have hlen : hp.size = es.length := by
    rw [hD2] at hD
    injection hD with hD
    rw [← hD, length_sorted, List.length_map, Array.length_toList]
  let Ks : List Lit := (List.range ls.length).flatMap fun k => (List.range top).map fun f => placeKey k f
  have h1 : (es.map (·.1)).Nodup := by
    rw [List.nodup_iff_pairwise_ne, List.pairwise_map]
    exact hnd
  have h2 : es.map (·.1) ⊆ Ks := by
    intro l hl
    obtain ⟨p, hp, rfl⟩ := List.mem_map.1 hl
    obtain ⟨k, f, hk, hf, e⟩ := hes p hp
    rw [e]
    exact List.mem_flatMap.2 ⟨k, List.mem_range.2 hk, List.mem_map.2 ⟨f, List.mem_range.2 hf, rfl⟩⟩
  have h3 := h1.length_le_of_subset h2
  have h4 : Ks.length = ls.length * top := by
    simp only [Ks, List.length_flatMap, List.length_map, List.length_range]
    rw [List.map_const']
    simp
  rw [hlen]
  simp only [List.length_map] at h3
  omega
end
theorem keyOf_place {P : Program} {t : TypeId} {f0 f1 : Field} (hs : P.underlying t = some (.struct #[f0, f1])) (hi : P.underlying f0.type = some (.int .i64)) (hu : P.underlying f1.type = some (.int .u32))
    (hkt : P.keyType t = true) (hC : P.cellsOf t = 2) (h0 : P.cellsOf f0.type = 1) (h1 : P.cellsOf f1.type = 1) (ho0 : f0.offset = 0) (ho1 : f1.offset = 1) (hn0 : f0.name ≠ "_") (hn1 : f1.name ≠ "_") (hsz : ∃ m, P.types.size = m + 1) (k f : Nat) (hk : k < 1000) (hf : f < 4294967296) :
    keyOf P t (.agg #[.int .i64 (k : Int), .int .u32 (f : Int)]) = some (placeKey k f) := by
  obtain ⟨m, hm⟩ := hsz
  have w1 := wf_i64n k hk
  have w2 := wf_u32n f hf
  unfold keyOf
  simp only [hs]
  rw [if_pos (by simp [hkt, Value.formed, hs, hC]), hm]
  unfold Program.keyLits
  simp only [hs, Value.cells]
  rw [if_pos ⟨by rw [hC]; rfl, by simp [hn0, hn1]⟩]
  simp [ho0, ho1, h0, h1, Program.keyLits, hi, hu, w1, w2, placeKey]
end Go.Proofs.YtffpiaipdeebcaaDoor
