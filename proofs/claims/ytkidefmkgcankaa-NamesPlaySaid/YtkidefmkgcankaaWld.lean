/- What NamesPlay holds: two tables with the document's beside them, those put aside. -/
import Derived.Test.YtkidefmkgcankaaDcT
namespace Go.Proofs.Ytkidefmkgcankaa
open Go.RowKit Go.Maps Go.Shelf
open Go.ChangeMaps Go.WideMaps

/-- A table of the program's with one of the document's. -/
structure Pr where
  p : Nat
  m : Nat
  q : Nat
  v : Value
  vd : Value
  l : List ByteArray
  most : Int
def Pr.Cl (X : Pr) (k : Nat) : Prop := Foot X.p X.m X.v k
def Pr.Mut (X : Pr) (k : Nat) : Prop := X.Cl k ∨ k = X.q
def Pr.All (X : Pr) (k : Nat) : Prop := X.Mut k ∨ X.vd.ownBlock = some k
theorem NT.own_foot {w : World} {B p m : Nat} {v : Value} {l : List ByteArray} {most : Int} (h : NT w B p v m l most) : ∀ k, Foot p m v k → B ≤ k := by
  rintro k (rfl | rfl | e)
  · exact h.base.1
  · exact h.base.2
  · exact (h.row.lt k e).1
theorem NT.lt {w : World} {B p m : Nat} {v : Value} {l : List ByteArray} {most : Int} (h : NT w B p v m l most) : ∀ k, Foot p m v k → k < w.heap.size := by
  rintro k (rfl | rfl | e)
  · exact lt_of_block h.blk
  · obtain ⟨D, ⟨es, clock, hb, _⟩, _⟩ := h.map
    exact lt_of_block hb
  · exact (h.row.lt k e).2
theorem own_only {w w1 : World} {B e size n : Nat} {vo : Value} {xs : List Value} {S : Nat → Prop} (h : w.ownsRow B e size vo n xs) (ho : Only S w w1) (hS : ∀ g, vo.ownBlock = some g → ¬ S g) : w1.ownsRow B e size vo n xs := by
  refine ⟨h.1, ?_⟩
  rcases h.2 with h2 | ⟨g, cap, cur, hv, hb, hk, h3⟩
  · exact .inl h2
  · exact .inr ⟨g, cap, cur, hv, hb, (ho.block g (lt_of_block hk) (hS g (by rw [hv]; rfl))).trans hk, h3⟩
theorem NT.only {w w' : World} {B p m : Nat} {v : Value} {l : List ByteArray} {most : Int} {T : Nat → Prop} (h : NT w B p v m l most) (ho : Only T w w') (hT : ∀ k, Foot p m v k → ¬ T k) : NT w' B p v m l most := by
  obtain ⟨D, ⟨es, clock, hb, hr⟩, hD⟩ := h.map
  exact ⟨(ho.block _ (lt_of_block h.blk) (hT p (.inl rfl))).trans h.blk, own_only h.row ho (fun g hg => hT g (.inr (.inr hg))), ⟨D, ⟨es, clock, (ho.block _ (lt_of_block hb) (hT m (.inr (.inl rfl)))).trans hb, hr⟩, hD⟩, h.base, h.nodup, h.len, h.most, h.ok⟩
theorem NT.lower {w : World} {B B' p m : Nat} {v : Value} {l : List ByteArray} {most : Int} (h : NT w B p v m l most) (hB : B' ≤ B) : NT w B' p v m l most :=
  ⟨h.blk, own_base h.row hB, h.map, ⟨Nat.le_trans hB h.base.1, Nat.le_trans hB h.base.2⟩, h.nodup, h.len, h.most, h.ok⟩
structure PrW (B M : Nat) (X : Pr) (W : World) : Prop where
  ca : NT W B X.p X.v X.m X.l X.most
  da : DocT W B X.q X.vd X.l X.most
  len : X.l.length ≤ M
section
variable {B M M' wp : Nat} {X : Pr} {W W' W1 W2 : World}
theorem PrW.lt (h : PrW B M X W) : ∀ k, X.All k → k < W.heap.size := by
  rintro k ((h1 | h1) | h1)
  · exact h.ca.lt k h1
  · rw [h1]; exact lt_of_block h.da.blk
  · exact (h.da.row.at_ k h1).2
theorem PrW.ge (h : PrW B M X W) : ∀ k, X.All k → B ≤ k := by
  rintro k ((h1 | h1) | h1)
  · exact h.ca.own_foot k h1
  · rw [h1]; exact h.da.base
  · exact (h.da.row.at_ k h1).1
theorem PrW.only {T : Nat → Prop} (h : PrW B M X W) (ho : Only T W W') (hT : ∀ k, X.All k → ¬ T k) : PrW B M X W' :=
  ⟨h.ca.only ho (fun k hk => hT k (.inl (.inl hk))), h.da.only ho (fun k hk => hT k (by
    rcases hk with hk | hk
    · exact .inl (.inr hk)
    · exact .inr hk)), h.len⟩
theorem PrW.below (h : PrW B M X W) (hb : Below W.heap.size W W') : PrW B M X W' := h.only (T := fun _ => False) (Only.of_below hb) (fun _ _ h => h)
theorem PrW.more (h : PrW B M X W) (hM : M ≤ M') : PrW B M' X W := ⟨h.ca, h.da, Nat.le_trans h.len hM⟩
end
/-- The other pair put in. -/
def updX (X : Bool → Pr) (b : Bool) (Y : Pr) : Bool → Pr := fun c => if c = b then Y else X c
theorem updX_same (X : Bool → Pr) (b : Bool) (Y : Pr) : updX X b Y b = Y := if_pos rfl
theorem updX_other (X : Bool → Pr) (b : Bool) (Y : Pr) : updX X b Y (!b) = X (!b) := if_neg (by cases b <;> decide)
theorem bool_two (b c : Bool) : c = b ∨ c = !b := by cases b <;> cases c <;> simp
/-- The pairs: those played now, those put aside. -/
structure PrsW (B M : Nat) (X : Bool → Pr) (os : List Pr) (W : World) : Prop where
  cur : ∀ b, PrW B M (X b) W
  old : ∀ Y ∈ os, PrW B M Y W
  ap : ∀ b k, (X b).Mut k → ¬ (X !b).All k
  self : ∀ b k, (X b).Mut k → (X b).vd.ownBlock ≠ some k
  cq : ∀ b, ¬ (X b).Cl (X b).q
  oap : ∀ Y ∈ os, ∀ b k, Y.All k → ¬ (X b).Mut k
section
variable {B M M' wp : Nat} {X : Bool → Pr} {os : List Pr} {W W' W1 W2 : World}
theorem PrsW.only {T : Nat → Prop} (h : PrsW B M X os W) (ho : Only T W W') (hT : ∀ k, T k → (∀ b, ¬ (X b).All k) ∧ ∀ Y ∈ os, ¬ Y.All k) : PrsW B M X os W' :=
  ⟨fun b => (h.cur b).only ho (fun k hk ht => (hT k ht).1 b hk), fun Y hY => (h.old Y hY).only ho (fun k hk ht => (hT k ht).2 Y hY hk), h.ap, h.self, h.cq, h.oap⟩
theorem PrsW.below (h : PrsW B M X os W) (hb : Below W.heap.size W W') : PrsW B M X os W' := h.only (T := fun _ => False) (Only.of_below hb) (fun _ h => h.elim)
theorem PrsW.more (h : PrsW B M X os W) (hM : M ≤ M') : PrsW B M' X os W := ⟨fun b => (h.cur b).more hM, fun Y hY => (h.old Y hY).more hM, h.ap, h.self, h.cq, h.oap⟩
/-- A pair turned. -/
theorem PrsW.turn {T : Nat → Prop} (h : PrsW B M X os W) (b : Bool) {Z : Pr} (ho : Only T W W') (hT : ∀ k, T k → (X b).Mut k) (hz : PrW B M' Z W') (hm : ∀ k, Z.Mut k → (X b).Mut k ∨ W.heap.size ≤ k) (hr : ∀ k, Z.vd.ownBlock = some k → (X b).vd.ownBlock = some k ∨ W.heap.size ≤ k) (hs : ∀ k, Z.Mut k → Z.vd.ownBlock ≠ some k) (hq : ¬ Z.Cl Z.q) (hM : M ≤ M') : PrsW B M' (updX X b Z) os W' := by
  have hoth : PrW B M' (X !b) W' := ((h.cur !b).only ho (fun k hk ht => h.ap b k (hT k ht) hk)).more hM
  refine ⟨fun c => ?_, fun Y hY => ((h.old Y hY).only ho (fun k hk ht => h.oap Y hY b k hk (hT k ht))).more hM, fun c k h1 h2 => ?_, fun c k h1 => ?_, fun c => ?_, fun Y hY c k h1 h2 => ?_⟩
  · rcases bool_two b c with rfl | rfl
    · rw [updX_same]; exact hz
    · rw [updX_other]; exact hoth
  · rcases bool_two b c with rfl | rfl
    · rw [updX_same] at h1
      rw [updX_other] at h2
      rcases hm k h1 with e | e
      · exact h.ap c k e h2
      · have := (h.cur !c).lt k h2; omega
    · rw [updX_other] at h1
      rw [Bool.not_not, updX_same] at h2
      rcases h2 with h2 | h2
      · rcases hm k h2 with e | e
        · exact h.ap b k e (.inl h1)
        · have := (h.cur !b).lt k (.inl h1); omega
      · rcases hr k h2 with e | e
        · have := h.ap (!b) k h1
          rw [Bool.not_not] at this
          exact this (.inr e)
        · have := (h.cur !b).lt k (.inl h1); omega
  · rcases bool_two b c with rfl | rfl
    · rw [updX_same] at h1 ⊢; exact hs k h1
    · rw [updX_other] at h1 ⊢; exact h.self _ k h1
  · rcases bool_two b c with rfl | rfl
    · rw [updX_same]; exact hq
    · rw [updX_other]; exact h.cq _
  · rcases bool_two b c with rfl | rfl
    · rw [updX_same] at h2
      rcases hm k h2 with e | e
      · exact h.oap Y hY c k h1 e
      · have := (h.old Y hY).lt k h1; omega
    · rw [updX_other] at h2; exact h.oap Y hY _ k h1 h2
/-- Between the two calls of a step: the document's stands as it did. -/
theorem PrsW.doc (h : PrsW B M X os W) (b : Bool) (ho : Only (Foot (X b).p (X b).m (X b).v) W W1) : DocT W1 B (X b).q (X b).vd (X b).l (X b).most :=
  (h.cur b).da.only ho (fun k hk hf => by
    rcases hk with rfl | hk
    · exact h.cq b hf
    · exact h.self b k (.inl hf) hk)
/-- Both calls of a step done. -/
theorem PrsW.both (h : PrsW B M X os W) (b : Bool) {v1 v2 : Value} {l1 : List ByteArray} (hc : NT W1 B (X b).p v1 (X b).m l1 (X b).most) (ho : Only (Foot (X b).p (X b).m (X b).v) W W1) (hg : ∀ g, v1.ownBlock = some g → (X b).v.ownBlock = some g ∨ W.heap.size ≤ g)
    (hd : DocT W2 B (X b).q v2 l1 (X b).most) (ho2 : Only (fun k => k = (X b).q) W1 W2) (hg2 : ∀ g, v2.ownBlock = some g → (X b).vd.ownBlock = some g ∨ W1.heap.size ≤ g) (hlen : l1.length ≤ M') (hM : M ≤ M') :
    PrsW B M' (updX X b ⟨(X b).p, (X b).m, (X b).q, v1, v2, l1, (X b).most⟩) os W2 ∧ Only (X b).Mut W W2 := by
  have hqlt : (X b).q < W.heap.size := (h.cur b).lt _ (.inl (.inr rfl))
  have hcl : ∀ k, Foot (X b).p (X b).m v1 k → (X b).Cl k ∨ W.heap.size ≤ k := by
    rintro k (e | e | e)
    · exact .inl (.inl e)
    · exact .inl (.inr (.inl e))
    · rcases hg k e with e | e
      · exact .inl (.inr (.inr e))
      · exact .inr e
  have hnq : ∀ k, Foot (X b).p (X b).m v1 k → k ≠ (X b).q := fun k hk e => by
    rcases hcl k hk with h1 | h1
    · exact h.cq b (e ▸ h1)
    · omega
  have hall : Only (X b).Mut W W2 := (⟨ho.os, ho.tape, ho.output, ho.size, fun k hk hn => ho.block k hk (fun hf => hn (.inl hf))⟩ : Only (X b).Mut W W1).trans ho2 (fun k _ e => .inr e)
  refine ⟨h.turn b hall (fun _ h => h) ⟨hc.only ho2 (fun k hk e => hnq k hk e), hd, hlen⟩ (fun k hk => ?_) (fun k hk => ?_) (fun k hk e => ?_) (fun hk => hnq _ hk rfl) hM, hall⟩
  · rcases hk with hk | hk
    · rcases hcl k hk with e | e
      · exact .inl (.inl e)
      · exact .inr e
    · exact .inl (.inr hk)
  · rcases hg2 k hk with e | e
    · exact .inl e
    · exact .inr (Nat.le_trans ho.size e)
  · rcases hk with hk | hk
    · rcases hg2 k e with e | e
      · rcases hcl k hk with e2 | e2
        · exact h.self b k (.inl e2) e
        · have := (h.cur b).lt k (.inr e); omega
      · have := hc.lt k hk
        omega
    · have hk : k = (X b).q := hk
      rcases hg2 k e with e | e
      · exact h.self b k (.inr hk) e
      · have := ho.size; omega
/-- The table goes on as its copy. -/
theorem PrsW.fresh (h : PrsW B M X os W) (b : Bool) {p m : Nat} {v : Value} (hb : Below W.heap.size W W') (hc : NT W' W.heap.size p v m (X b).l (X b).most) (hB : B ≤ W.heap.size) : PrsW B M (updX X b ⟨p, m, (X b).q, v, (X b).vd, (X b).l, (X b).most⟩) os W' := by
  have hX := h.cur b
  have hge : ∀ k, Foot p m v k → W.heap.size ≤ k := hc.own_foot
  have hqlt : (X b).q < W.heap.size := hX.lt _ (.inl (.inr rfl))
  refine h.turn b (T := fun _ => False) (Only.of_below hb) (fun _ h => h.elim) ⟨hc.lower hB, hX.da.below hb, hX.len⟩ (fun k hk => ?_) (fun k hk => .inl hk) (fun k hk e => ?_) (fun hk => by have h1 : W.heap.size ≤ (X b).q := hge _ hk; omega) (Nat.le_refl _)
  · rcases hk with hk | hk
    · exact .inr (hge k hk)
    · exact .inl (.inr hk)
  · rcases hk with hk | hk
    · have h1 := hge k hk
      have h2 := hX.lt k (.inr e)
      omega
    · exact h.self b k (.inr hk) e
/-- One more is put aside: the table as it was, with a copy of the document's. -/
theorem PrsW.aside2 (h : PrsW B M X os W1) (b : Bool) {p m q' : Nat} {v : Value} (hd : DocT W1 B q' (X b).vd (X b).l (X b).most) (hq' : (∀ c, ¬ (X c).All q')) (hb2 : Below W1.heap.size W1 W2) (hc : NT W2 W1.heap.size p v m (X b).l (X b).most) (hB : B ≤ W1.heap.size) :
    PrsW B M (updX X b ⟨p, m, (X b).q, v, (X b).vd, (X b).l, (X b).most⟩) (os ++ [⟨(X b).p, (X b).m, q', (X b).v, (X b).vd, (X b).l, (X b).most⟩]) W2 := by
  have hX := h.cur b
  have hf := h.fresh b hb2 hc hB
  have hge : ∀ k, Foot p m v k → W1.heap.size ≤ k := hc.own_foot
  have hq2 : q' < W1.heap.size := lt_of_block hd.blk
  refine ⟨hf.cur, fun Y hY => ?_, hf.ap, hf.self, hf.cq, fun Y hY c k h1 h2 => ?_⟩
  · rcases List.mem_append.1 hY with hY | hY
    · exact hf.old Y hY
    · obtain rfl := List.mem_singleton.1 hY
      exact ⟨hX.ca.below hb2, hd.below hb2, hX.len⟩
  · rcases List.mem_append.1 hY with hY | hY
    · exact hf.oap Y hY c k h1 h2
    · obtain rfl := List.mem_singleton.1 hY
      have hY1 : (X b).All k ∨ k = q' := by
        rcases h1 with (h1 | h1) | h1
        · exact .inl (.inl (.inl h1))
        · exact .inr h1
        · exact .inl (.inr h1)
      rcases bool_two b c with rfl | rfl
      · rw [updX_same] at h2
        rcases h2 with h2 | h2
        · have := hge k h2
          rcases hY1 with e | e
          · have := hX.lt k e; omega
          · omega
        · have h2 : k = (X c).q := h2
          rcases h1 with (h1 | h1) | h1
          · exact h.cq c (h2 ▸ h1)
          · have h1 : k = q' := h1
            exact hq' c (h1 ▸ .inl (.inr h2))
          · exact h.self c k (.inr h2) h1
      · rw [updX_other] at h2
        rcases hY1 with e | e
        · have := h.ap (!b) k h2
          rw [Bool.not_not] at this
          exact this e
        · exact hq' (!b) (e ▸ .inl h2)
end
def ptrV (p : Nat) : Value := .pointer (some ⟨p, 0, none⟩)
/-- The law's struct, its two lists of pointers. -/
structure RowsW (B wp p0 p1 q0 q1 : Nat) (ps qs : List Nat) (vo vw : Value) (W : World) : Prop where
  blk : W.heap[wp]? = some (.cells #[ptrV p0, ptrV p1, ptrV q0, ptrV q1, vo, vw] 39 (0, 0))
  ro : W.ownsRow B 32 1 vo ps.length (ps.map ptrV)
  rq : W.ownsRow B 34 1 vw qs.length (qs.map ptrV)
  base : B ≤ wp
def OwW (wp : Nat) (vo vw : Value) (k : Nat) : Prop := k = wp ∨ vo.ownBlock = some k ∨ vw.ownBlock = some k
section
variable {B wp p0 p1 q0 q1 : Nat} {ps qs : List Nat} {vo vw : Value} {W W' : World}
theorem RowsW.lt (h : RowsW B wp p0 p1 q0 q1 ps qs vo vw W) : ∀ k, OwW wp vo vw k → B ≤ k ∧ k < W.heap.size := by
  rintro k (e | e | e)
  · rw [e]; exact ⟨h.base, lt_of_block h.blk⟩
  · exact h.ro.lt k e
  · exact h.rq.lt k e
theorem RowsW.only {T : Nat → Prop} (h : RowsW B wp p0 p1 q0 q1 ps qs vo vw W) (ho : Only T W W') (hT : ∀ k, OwW wp vo vw k → ¬ T k) : RowsW B wp p0 p1 q0 q1 ps qs vo vw W' :=
  ⟨(ho.block _ (lt_of_block h.blk) (hT wp (.inl rfl))).trans h.blk, own_only h.ro ho (fun g hg => hT g (.inr (.inl hg))), own_only h.rq ho (fun g hg => hT g (.inr (.inr hg))), h.base⟩
theorem RowsW.below (h : RowsW B wp p0 p1 q0 q1 ps qs vo vw W) (hb : Below W.heap.size W W') : RowsW B wp p0 p1 q0 q1 ps qs vo vw W' := h.only (T := fun _ => False) (Only.of_below hb) (fun _ _ h => h)
theorem RowsW.apart (h : RowsW B wp p0 p1 q0 q1 ps qs vo vw W) : vo.ownBlock ≠ some wp ∧ vw.ownBlock ≠ some wp ∧ ∀ g, vo.ownBlock = some g → vw.ownBlock ≠ some g := by
  refine ⟨own_ne h.ro h.blk (fun cur e => by injection e with _ e _; exact absurd e (by decide)), own_ne h.rq h.blk (fun cur e => by injection e with _ e _; exact absurd e (by decide)), fun g e => ?_⟩
  rcases h.ro.2 with ⟨hv, _⟩ | ⟨g', cap, cur, hv, _, hb, _⟩
  · rw [hv] at e; cases e
  · rw [hv] at e
    injection e with e
    have e : g' = g := e
    subst e
    exact own_ne h.rq hb (fun cur e => by injection e with _ e _; exact absurd e (by decide))
end
/-- The whole: the struct, the pairs, apart. -/
structure StW (B M wp : Nat) (X : Bool → Pr) (os : List Pr) (vo vw : Value) (W : World) : Prop where
  rows : RowsW B wp (X false).p (X true).p (X false).q (X true).q (os.map Pr.p) (os.map Pr.q) vo vw W
  prs : PrsW B M X os W
  own : ∀ k, OwW wp vo vw k → (∀ b, ¬ (X b).All k) ∧ ∀ Y ∈ os, ¬ Y.All k
section
variable {B M M' wp : Nat} {X : Bool → Pr} {os : List Pr} {vo vw : Value} {W W' W1 W2 : World}
theorem StW.below (h : StW B M wp X os vo vw W) (hb : Below W.heap.size W W') : StW B M wp X os vo vw W' := ⟨h.rows.below hb, h.prs.below hb, h.own⟩
theorem StW.more (h : StW B M wp X os vo vw W) (hM : M ≤ M') : StW B M' wp X os vo vw W := ⟨h.rows, h.prs.more hM, h.own⟩
/-- Other memory turned. -/
theorem StW.only {T : Nat → Prop} (h : StW B M wp X os vo vw W) (ho : Only T W W') (hT : ∀ k, T k → ¬ OwW wp vo vw k ∧ (∀ b, ¬ (X b).All k) ∧ ∀ Y ∈ os, ¬ Y.All k) : StW B M wp X os vo vw W' :=
  ⟨h.rows.only ho (fun k hk ht => (hT k ht).1 hk), h.prs.only ho (fun k ht => (hT k ht).2), h.own⟩
theorem StW.both (h : StW B M wp X os vo vw W) (b : Bool) {v1 v2 : Value} {l1 : List ByteArray} (hc : NT W1 B (X b).p v1 (X b).m l1 (X b).most) (ho : Only (Foot (X b).p (X b).m (X b).v) W W1) (hg : ∀ g, v1.ownBlock = some g → (X b).v.ownBlock = some g ∨ W.heap.size ≤ g)
    (hd : DocT W2 B (X b).q v2 l1 (X b).most) (ho2 : Only (fun k => k = (X b).q) W1 W2) (hg2 : ∀ g, v2.ownBlock = some g → (X b).vd.ownBlock = some g ∨ W1.heap.size ≤ g) (hlen : l1.length ≤ M') (hM : M ≤ M') :
    StW B M' wp (updX X b ⟨(X b).p, (X b).m, (X b).q, v1, v2, l1, (X b).most⟩) os vo vw W2 ∧ Only (X b).Mut W W2 := by
  have hb := h.prs.both b hc ho hg hd ho2 hg2 hlen hM
  have hsame : ∀ c, (updX X b ⟨(X b).p, (X b).m, (X b).q, v1, v2, l1, (X b).most⟩ c).p = (X c).p ∧ (updX X b ⟨(X b).p, (X b).m, (X b).q, v1, v2, l1, (X b).most⟩ c).q = (X c).q := fun c => by
    rcases bool_two b c with rfl | rfl
    · rw [updX_same]; exact ⟨rfl, rfl⟩
    · rw [updX_other]; exact ⟨rfl, rfl⟩
  refine ⟨⟨?_, hb.1, fun k hk => ⟨fun c => ?_, (h.own k hk).2⟩⟩, hb.2⟩
  · rw [(hsame false).1, (hsame true).1, (hsame false).2, (hsame true).2]
    exact h.rows.only hb.2 (fun k hk hm => (h.own k hk).1 b (.inl hm))
  · rcases bool_two b c with rfl | rfl
    · rw [updX_same]
      have hlt := (h.rows.lt k hk).2
      have hno := (h.own k hk).1 c
      rintro ((h1 | h1) | h1)
      · rcases h1 with e | e | e
        · exact hno (.inl (.inl (.inl e)))
        · exact hno (.inl (.inl (.inr (.inl e))))
        · rcases hg k e with e | e
          · exact hno (.inl (.inl (.inr (.inr e))))
          · omega
      · exact hno (.inl (.inr h1))
      · rcases hg2 k h1 with e | e
        · exact hno (.inr e)
        · have := ho.size; omega
    · rw [updX_other]; exact (h.own k hk).1 _
theorem StW.mut_ge (h : StW B M wp X os vo vw W) (b : Bool) : ∀ k, (X b).Mut k → B ≤ k := fun k hk => (h.prs.cur b).ge k (.inl hk)
end
end Go.Proofs.Ytkidefmkgcankaa
