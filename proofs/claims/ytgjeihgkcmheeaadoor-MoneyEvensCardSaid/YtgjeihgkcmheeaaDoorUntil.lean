/- A region that draws its order and ends in a store to a cell that it loads: the condition on the world is asked up to the store alone. -/
import Derived.Test.YtgjeihgkcmheeaaDoorBase
import Derived.StillTail
import Derived.StillTailTactics
import Derived.Deep.RegionHeld3
namespace Go.Proofs.YtgjeihgkcmheeaaDoor
open Go.RowKit

section
variable {P : Program} {ops : Array Oper} {Q : Exit → Act → World → Prop} {md : Region.Mode} {S : World → Prop} {n : Nat}
/-- Whatever comes up next; behind each operation ahead of number n the condition S holds. -/
def AnyU (P : Program) (md : Region.Mode) (ops : Array Oper) (Q : Exit → Act → World → Prop) (S : World → Prop) (n : Nat) : Nat → Array Bool → Act → World → Prop
  | 0, done, a, w => Region.ready md ops done = [] ∧ Q .normal a w
  | k + 1, done, a, w => (Region.ready md ops done = [] → Q .normal a w) ∧ ∀ j ∈ Region.ready md ops done, wpOp P ops Q j (fun b u => (j < n → S u) ∧ AnyU P md ops Q S n k (done.setIfInBounds j true) b u) a w
theorem AnyU.any : ∀ (k : Nat) (done : Array Bool) (a : Act) (w : World), AnyU P md ops Q S n k done a w → wpAny P md ops Q k done a w
  | 0, _, _, _, h => h
  | k + 1, _, _, _, h => ⟨h.1, fun j hj => wpOp_mono (fun b u hb => AnyU.any k _ b u hb.2) (h.2 j hj)⟩
/-- All from number n on wait for operation i. -/
def lateB (md : Region.Mode) (ops : Array Oper) (n i : Nat) : Bool := (List.range ops.size).all fun t => decide (t < n) || Region.waitsFor md ops t i
theorem AnyU.first {i : Nat} {x : Oper} {v : Value} (hx : ops[i]? = some x) (hsel : ∀ (j : Nat) (o : Oper) cs b, ops[j]? = some o → o.op ≠ .select cs b) (hlate : lateB md ops n i = true)
    (hq : ∀ c a w, Q (.panic c) (a.put x.dst v) w → Q (.panic c) a w) :
    ∀ (k : Nat) (done : Array Bool) (a : Act) (w : World),
      (∀ j y, ops[j]? = some y → j ≠ i → done.getD j true = false → (∀ e ∈ y.after, Region.binds md e = true → e.on ≠ i) → x.apart ops y = true) →
      i ∈ Region.ready md ops done → YieldsIf P ops S x v a → S w →
      AnyU P md ops Q S n k (done.setIfInBounds i true) (a.put x.dst v) w → AnyU P md ops Q S n (k + 1) done a w := by
  have early : ∀ (done : Array Bool) (j : Nat), i ∈ Region.ready md ops done → j ∈ Region.ready md ops done → (∃ y, ops[j]? = some y ∧ ∀ e ∈ y.after, Region.binds md e = true → e.on ≠ i) ∧ j < n := by
    intro done j hr hj
    obtain ⟨_, y, hy, hall⟩ := mem_ready.1 hj
    have hno : ∀ e ∈ y.after, Region.binds md e = true → e.on ≠ i := by
      intro e he hb heq
      have h1 := hall e he hb
      rw [heq] at h1
      have h0 := getD_both (mem_ready.1 hr).1
      rw [h0] at h1
      cases h1
    refine ⟨⟨y, hy, hno⟩, ?_⟩
    have h2 := List.all_eq_true.1 hlate j (List.mem_range.2 (Array.getElem?_eq_some_iff.1 hy).1)
    simp only [Bool.or_eq_true, decide_eq_true_eq] at h2
    rcases h2 with h2 | h2
    · exact h2
    · obtain ⟨y', hy', e, he, hb, hon⟩ := Region.waitsFor_spec h2
      rw [hy] at hy'
      injection hy' with hy'
      subst hy'
      exact absurd hon (hno e he hb)
  intro k
  induction k with
  | zero =>
    intro done a w _ hr hy hS hrest
    refine ⟨fun h0 => (by rw [h0] at hr; cases hr), fun j hj => ?_⟩
    rcases Classical.em (j = i) with rfl | hne
    · exact hy.wpOp hx hS ⟨fun _ => hS, hrest⟩
    · exact absurd (ready_mono hj hne) (by rw [hrest.1]; simp)
  | succ k ih =>
    intro done a w hfree hr hy hS hrest
    refine ⟨fun h0 => (by rw [h0] at hr; cases hr), fun j hj => ?_⟩
    rcases Classical.em (j = i) with rfl | hne
    · exact hy.wpOp hx hS ⟨fun _ => hS, hrest⟩
    · obtain ⟨⟨y, hyj, hno⟩, hjn⟩ := early done j hr hj
      have hap := hfree j y hyj hne (mem_ready.1 hj).1 hno
      have hstep := wpOp_putIf hyj hap (fun cs b => hsel i x cs b hx) (fun cs b => hsel j y cs b hyj) hq hy (hrest.2 j (ready_mono hj hne))
      refine wpOp_mono (fun b u hb => ?_) hstep
      obtain ⟨hyb, hSb, hmore⟩ := hb
      refine ⟨hSb, ih _ b u (fun m z hz hmi hun hw => ?_) (ready_mono hr (Ne.symm hne)) hyb (hSb hjn) ?_⟩
      · refine hfree m z hz hmi ?_ hw
        rcases Classical.em (j = m) with rfl | hjm
        · exact (mem_ready.1 hj).1
        · rwa [getD_set_ne true hjm] at hun
      · rw [Array.setIfInBounds_comm _ _ hne]
        exact hmore
theorem AnyU.take {i : Nat} {x : Oper} {v : Value} {k : Nat} {done : Array Bool} {a : Act} {w : World} (hx' : ops.toList[i]? = some x) (hs : Region.noSelect ops = true) (hf : Region.free md ops done i = true) (hr : (Region.ready md ops done).contains i = true) (hl : lateB md ops n i = true)
    (hq : ∀ c a w, Q (.panic c) (a.put x.dst v) w → Q (.panic c) a w) (hy : YieldsIf P ops S x v a) (hS : S w)
    (h : AnyU P md ops Q S n k (done.setIfInBounds i true) (a.put x.dst v) w) : AnyU P md ops Q S n (k + 1) done a w :=
  have hx : ops[i]? = some x := by rw [← Array.getElem?_toList]; exact hx'
  AnyU.first hx (Region.noSelect_spec hs) hl hq k done a w (Region.free_spec hx hf) (by simpa using hr) hy hS h
theorem AnyU.over {done : Array Bool} {a : Act} {w : World} (hr : Region.ready md ops done = []) (h : Q .normal a w) : ∀ k, AnyU P md ops Q S n k done a w
  | 0 => ⟨hr, h⟩
  | _ + 1 => ⟨fun _ => h, by rw [hr]; simp⟩
/-- One of those that may come up. -/
def NextU (P : Program) (md : Region.Mode) (ops : Array Oper) (Q : Exit → Act → World → Prop) (S : World → Prop) (n k : Nat) (done : Array Bool) (a : Act) (w : World) (js : List Nat) : Prop :=
  ∀ j ∈ js, wpOp P ops Q j (fun b u => (j < n → S u) ∧ AnyU P md ops Q S n k (done.setIfInBounds j true) b u) a w
theorem NextU.nil {k : Nat} {done : Array Bool} {a : Act} {w : World} : NextU P md ops Q S n k done a w [] := fun _ h => by cases h
theorem NextU.cons {k : Nat} {done : Array Bool} {a : Act} {w : World} {j : Nat} {y : Oper} {js : List Nat} (hy' : ops.toList[j]? = some y)
    (h : ∀ K : Act → World → Prop, Shut (∀ b u, (j < n → S u) → ((j < n → S u) → AnyU P md ops Q S n k (done.setIfInBounds j true) b u) → K b u) → if Region.wanted y (yielded ops a.tmps) = true then Oper.wp P y a w K Q else K (a.put y.dst undef) w)
    (hs : NextU P md ops Q S n k done a w js) : NextU P md ops Q S n k done a w (j :: js) := fun m hm => by
  rcases List.mem_cons.1 hm with rfl | hm
  · exact wpOp_step (by rw [← Array.getElem?_toList]; exact hy') (fun K hK => h K (fun b u hS hW => hK b u ⟨hS, hW hS⟩))
  · exact hs m hm
theorem AnyU.next {js : List Nat} {k : Nat} {done : Array Bool} {a : Act} {w : World} (hr : Region.ready md ops done = js) (hne : js ≠ []) (h : NextU P md ops Q S n k done a w js) : AnyU P md ops Q S n (k + 1) done a w :=
  ⟨fun h0 => absurd (hr ▸ h0) hne, fun j hj => h j (hr ▸ hj)⟩
theorem wp_region_U {id : Nat} {a : Act} {w : World} (n : Nat) (S : World → Prop) (hm : P.follows .mixedOrders = true) (hS : S w.drew)
    (h : S w.drew → AnyU P .any ops Q S n ops.size (Array.replicate ops.size false) a w.drew) : (Code.region id ops true).wp P Q a w :=
  wp_region_any hm (AnyU.any _ _ _ _ (h hS))
end
end Go.Proofs.YtgjeihgkcmheeaaDoor
