/- (Until, with any set of operations behind which the condition holds.) A region that draws its order and ends in a store to a cell that it loads: the condition on the world is asked up to the store alone. -/
import Derived.Test.YtdaicdaakegdmaaUntil
import Derived.Deep.RegionHeld3
namespace Go.Proofs.Ytdaicdaakegdmaa
open Go.RowKit

section
variable {P : Program} {ops : Array Oper} {Q : Exit → Act → World → Prop} {md : Region.Mode} {S : World → Prop} {ey : Nat → Bool}
/-- Whatever comes up next; behind each operation ahead of number n the condition S holds. -/
def AnyE (P : Program) (md : Region.Mode) (ops : Array Oper) (Q : Exit → Act → World → Prop) (S : World → Prop) (ey : Nat → Bool) : Nat → Array Bool → Act → World → Prop
  | 0, done, a, w => Region.ready md ops done = [] ∧ Q .normal a w
  | k + 1, done, a, w => (Region.ready md ops done = [] → Q .normal a w) ∧ ∀ j ∈ Region.ready md ops done, wpOp P ops Q j (fun b u => (ey j = true → S u) ∧ AnyE P md ops Q S ey k (done.setIfInBounds j true) b u) a w
theorem AnyE.any : ∀ (k : Nat) (done : Array Bool) (a : Act) (w : World), AnyE P md ops Q S ey k done a w → wpAny P md ops Q k done a w
  | 0, _, _, _, h => h
  | k + 1, _, _, _, h => ⟨h.1, fun j hj => wpOp_mono (fun b u hb => AnyE.any k _ b u hb.2) (h.2 j hj)⟩
/-- C: operation i and others that cannot come ahead of it; all behind which the condition is not asked wait for one of these. -/
def lateE (md : Region.Mode) (ops : Array Oper) (ey : Nat → Bool) (C D : List Nat) (i : Nat) : Bool :=
  (C.contains i && C.all fun c => c == i || C.any fun u => Region.waitsFor md ops c u) && (List.range ops.size).all fun t => (ey t || D.contains t) || C.any fun u => Region.waitsFor md ops t u
theorem lateE_spec {C D : List Nat} {i : Nat} (h : lateE md ops ey C D i = true) : i ∈ C ∧ (∀ c ∈ C, c ≠ i → ∃ u ∈ C, Region.waitsFor md ops c u = true) ∧ (∀ t, t < ops.size → (ey t = true ∨ t ∈ D) ∨ ∃ u ∈ C, Region.waitsFor md ops t u = true) := by
  simp only [lateE, Bool.and_eq_true] at h
  obtain ⟨⟨h1, h2⟩, h3⟩ := h
  refine ⟨by simpa using h1, fun c hc hne => ?_, fun t ht => ?_⟩
  · have := List.all_eq_true.1 h2 c hc
    rw [Bool.or_eq_true] at this
    rcases this with h | h
    · exact absurd (by simpa using h) hne
    · obtain ⟨u, hu, hw⟩ := List.any_eq_true.1 h
      exact ⟨u, hu, hw⟩
  · have := List.all_eq_true.1 h3 t (List.mem_range.2 ht)
    rw [Bool.or_eq_true] at this
    rcases this with h | h
    · rw [Bool.or_eq_true] at h
      exact .inl (h.imp id (fun h => by simpa using h))
    · obtain ⟨u, hu, hw⟩ := List.any_eq_true.1 h
      exact .inr ⟨u, hu, hw⟩
theorem not_waits {done : Array Bool} {j u : Nat} (hj : j ∈ Region.ready md ops done) (hu : done.getD u true = false) (hw : Region.waitsFor md ops j u = true) : False := by
  obtain ⟨_, y, hy, hall⟩ := mem_ready.1 hj
  obtain ⟨y', hy', e, he, hb, hon⟩ := Region.waitsFor_spec hw
  rw [hy] at hy'
  injection hy' with hy'
  subst hy'
  have h1 := hall e he hb
  rw [hon, getD_both hu] at h1
  cases h1
theorem AnyE.first {i : Nat} {C D : List Nat} {x : Oper} {v : Value} (hx : ops[i]? = some x) (hsel : ∀ (j : Nat) (o : Oper) cs b, ops[j]? = some o → o.op ≠ .select cs b) (hlate : lateE md ops ey C D i = true)
    (hq : ∀ c a w, Q (.panic c) (a.put x.dst v) w → Q (.panic c) a w) :
    ∀ (k : Nat) (done : Array Bool) (a : Act) (w : World),
      (∀ j y, ops[j]? = some y → j ≠ i → done.getD j true = false → (∀ e ∈ y.after, Region.binds md e = true → e.on ≠ i) → x.apart ops y = true) → (∀ c ∈ C, done.getD c true = false) → (∀ c ∈ D, done.getD c true = true) →
      i ∈ Region.ready md ops done → YieldsIf P ops S x v a → S w →
      AnyE P md ops Q S ey k (done.setIfInBounds i true) (a.put x.dst v) w → AnyE P md ops Q S ey (k + 1) done a w := by
  obtain ⟨hiC, hCC, hCt⟩ := lateE_spec hlate
  have early : ∀ (done : Array Bool) (j : Nat), (∀ c ∈ C, done.getD c true = false) → (∀ c ∈ D, done.getD c true = true) → i ∈ Region.ready md ops done → j ∈ Region.ready md ops done → (∃ y, ops[j]? = some y ∧ ∀ e ∈ y.after, Region.binds md e = true → e.on ≠ i) ∧ ey j = true ∧ (j ≠ i → j ∉ C) := by
    intro done j hC hDD hr hj
    obtain ⟨hjd, y, hy, hall⟩ := mem_ready.1 hj
    have hno : ∀ e ∈ y.after, Region.binds md e = true → e.on ≠ i := by
      intro e he hb heq
      have h1 := hall e he hb
      rw [heq] at h1
      have h0 := getD_both (mem_ready.1 hr).1
      rw [h0] at h1
      cases h1
    refine ⟨⟨y, hy, hno⟩, ?_, fun hne hjC => ?_⟩
    · rcases hCt j (Array.getElem?_eq_some_iff.1 hy).1 with (h | h) | ⟨u, hu, hw⟩
      · exact h
      · rw [hDD j h] at hjd; cases hjd
      · exact (not_waits hj (hC u hu) hw).elim
    · obtain ⟨u, hu, hw⟩ := hCC j hjC hne
      exact not_waits hj (hC u hu) hw
  intro k
  induction k with
  | zero =>
    intro done a w _ _ _ hr hy hS hrest
    refine ⟨fun h0 => (by rw [h0] at hr; cases hr), fun j hj => ?_⟩
    rcases Classical.em (j = i) with rfl | hne
    · exact hy.wpOp hx hS ⟨fun _ => hS, hrest⟩
    · exact absurd (ready_mono hj hne) (by rw [hrest.1]; simp)
  | succ k ih =>
    intro done a w hfree hC hDD hr hy hS hrest
    refine ⟨fun h0 => (by rw [h0] at hr; cases hr), fun j hj => ?_⟩
    rcases Classical.em (j = i) with rfl | hne
    · exact hy.wpOp hx hS ⟨fun _ => hS, hrest⟩
    · obtain ⟨⟨y, hyj, hno⟩, hjn, hjC⟩ := early done j hC hDD hr hj
      have hap := hfree j y hyj hne (mem_ready.1 hj).1 hno
      have hjd0 := (mem_ready.1 hj).1
      have hstep := wpOp_putIf hyj hap (fun cs b => hsel i x cs b hx) (fun cs b => hsel j y cs b hyj) hq hy (hrest.2 j (ready_mono hj hne))
      refine wpOp_mono (fun b u hb => ?_) hstep
      obtain ⟨hyb, hSb, hmore⟩ := hb
      refine ⟨hSb, ih _ b u (fun m z hz hmi hun hw => ?_) (fun c hc => ?_) (fun c hc => ?_) (ready_mono hr (Ne.symm hne)) hyb (hSb hjn) ?_⟩
      · refine hfree m z hz hmi ?_ hw
        rcases Classical.em (j = m) with rfl | hjm
        · exact (mem_ready.1 hj).1
        · rwa [getD_set_ne true hjm] at hun
      · rw [getD_set_ne true (show ¬ j = c from fun e => hjC hne (e ▸ hc))]
        exact hC c hc
      · rcases Classical.em (j = c) with rfl | hjc
        · rw [hDD j hc] at hjd0; cases hjd0
        · rw [getD_set_ne true hjc]; exact hDD c hc
      · rw [Array.setIfInBounds_comm _ _ hne]
        exact hmore
theorem AnyE.take {i : Nat} (C D : List Nat) {x : Oper} {v : Value} {k : Nat} {done : Array Bool} {a : Act} {w : World} (hx' : ops.toList[i]? = some x) (hCd : (C.all fun c => !(done.getD c true)) = true) (hDd : (D.all fun c => done.getD c true) = true) (hs : Region.noSelect ops = true) (hf : Region.free md ops done i = true) (hr : (Region.ready md ops done).contains i = true) (hl : lateE md ops ey C D i = true)
    (hq : ∀ c a w, Q (.panic c) (a.put x.dst v) w → Q (.panic c) a w) (hy : YieldsIf P ops S x v a) (hS : S w)
    (h : AnyE P md ops Q S ey k (done.setIfInBounds i true) (a.put x.dst v) w) : AnyE P md ops Q S ey (k + 1) done a w :=
  have hx : ops[i]? = some x := by rw [← Array.getElem?_toList]; exact hx'
  AnyE.first hx (Region.noSelect_spec hs) hl hq k done a w (Region.free_spec hx hf) (fun c hc => by simpa using List.all_eq_true.1 hCd c hc) (fun c hc => by simpa using List.all_eq_true.1 hDd c hc) (by simpa using hr) hy hS h
/-- An operation that gives the same in whatever world, behind which nothing is asked: it may be taken first. -/
theorem AnyE.firstT {i : Nat} {x : Oper} {v : Value} (hx : ops[i]? = some x) (hsel : ∀ (j : Nat) (o : Oper) cs b, ops[j]? = some o → o.op ≠ .select cs b) (hey : ey i = false)
    (hq : ∀ c a w, Q (.panic c) (a.put x.dst v) w → Q (.panic c) a w) :
    ∀ (k : Nat) (done : Array Bool) (a : Act) (w : World),
      (∀ j y, ops[j]? = some y → j ≠ i → done.getD j true = false → (∀ e ∈ y.after, Region.binds md e = true → e.on ≠ i) → x.apart ops y = true) →
      i ∈ Region.ready md ops done → YieldsIf P ops (fun _ => True) x v a →
      AnyE P md ops Q S ey k (done.setIfInBounds i true) (a.put x.dst v) w → AnyE P md ops Q S ey (k + 1) done a w := by
  have early : ∀ (done : Array Bool) (j : Nat), i ∈ Region.ready md ops done → j ∈ Region.ready md ops done → ∃ y, ops[j]? = some y ∧ ∀ e ∈ y.after, Region.binds md e = true → e.on ≠ i := by
    intro done j hr hj
    obtain ⟨_, y, hy, hall⟩ := mem_ready.1 hj
    refine ⟨y, hy, fun e he hb heq => ?_⟩
    have h1 := hall e he hb
    rw [heq, getD_both (mem_ready.1 hr).1] at h1
    cases h1
  intro k
  induction k with
  | zero =>
    intro done a w _ hr hy hrest
    refine ⟨fun h0 => (by rw [h0] at hr; cases hr), fun j hj => ?_⟩
    rcases Classical.em (j = i) with rfl | hne
    · exact hy.wpOp hx trivial ⟨fun h => by (rw [hey] at h; cases h), hrest⟩
    · exact absurd (ready_mono hj hne) (by rw [hrest.1]; simp)
  | succ k ih =>
    intro done a w hfree hr hy hrest
    refine ⟨fun h0 => (by rw [h0] at hr; cases hr), fun j hj => ?_⟩
    rcases Classical.em (j = i) with rfl | hne
    · exact hy.wpOp hx trivial ⟨fun h => by (rw [hey] at h; cases h), hrest⟩
    · obtain ⟨y, hyj, hno⟩ := early done j hr hj
      have hap := hfree j y hyj hne (mem_ready.1 hj).1 hno
      have hstep := wpOp_putIf hyj hap (fun cs b => hsel i x cs b hx) (fun cs b => hsel j y cs b hyj) hq hy (hrest.2 j (ready_mono hj hne))
      refine wpOp_mono (fun b u hb => ?_) hstep
      obtain ⟨hyb, hSb, hmore⟩ := hb
      refine ⟨hSb, ih _ b u (fun m z hz hmi hun hw => ?_) (ready_mono hr (Ne.symm hne)) hyb ?_⟩
      · refine hfree m z hz hmi ?_ hw
        rcases Classical.em (j = m) with rfl | hjm
        · exact (mem_ready.1 hj).1
        · rwa [getD_set_ne true hjm] at hun
      · rw [Array.setIfInBounds_comm _ _ hne]
        exact hmore
theorem AnyE.takeT {i : Nat} {x : Oper} {v : Value} {k : Nat} {done : Array Bool} {a : Act} {w : World} (hx' : ops.toList[i]? = some x) (hs : Region.noSelect ops = true) (hf : Region.free md ops done i = true) (hr : (Region.ready md ops done).contains i = true) (hey : ey i = false)
    (hq : ∀ c a w, Q (.panic c) (a.put x.dst v) w → Q (.panic c) a w) (hy : YieldsIf P ops (fun _ => True) x v a)
    (h : AnyE P md ops Q S ey k (done.setIfInBounds i true) (a.put x.dst v) w) : AnyE P md ops Q S ey (k + 1) done a w :=
  have hx : ops[i]? = some x := by rw [← Array.getElem?_toList]; exact hx'
  AnyE.firstT hx (Region.noSelect_spec hs) hey hq k done a w (Region.free_spec hx hf) (by simpa using hr) hy h
theorem AnyE.over {done : Array Bool} {a : Act} {w : World} (hr : Region.ready md ops done = []) (h : Q .normal a w) : ∀ k, AnyE P md ops Q S ey k done a w
  | 0 => ⟨hr, h⟩
  | _ + 1 => ⟨fun _ => h, by rw [hr]; simp⟩
/-- One of those that may come up. -/
def NextE (P : Program) (md : Region.Mode) (ops : Array Oper) (Q : Exit → Act → World → Prop) (S : World → Prop) (ey : Nat → Bool) (k : Nat) (done : Array Bool) (a : Act) (w : World) (js : List Nat) : Prop :=
  ∀ j ∈ js, wpOp P ops Q j (fun b u => (ey j = true → S u) ∧ AnyE P md ops Q S ey k (done.setIfInBounds j true) b u) a w
theorem NextE.nil {k : Nat} {done : Array Bool} {a : Act} {w : World} : NextE P md ops Q S ey k done a w [] := fun _ h => by cases h
theorem NextE.cons {k : Nat} {done : Array Bool} {a : Act} {w : World} {j : Nat} {y : Oper} {js : List Nat} (hy' : ops.toList[j]? = some y)
    (h : ∀ K : Act → World → Prop, Shut (∀ b u, (ey j = true → S u) → ((ey j = true → S u) → AnyE P md ops Q S ey k (done.setIfInBounds j true) b u) → K b u) → if Region.wanted y (yielded ops a.tmps) = true then Oper.wp P y a w K Q else K (a.put y.dst undef) w)
    (hs : NextE P md ops Q S ey k done a w js) : NextE P md ops Q S ey k done a w (j :: js) := fun m hm => by
  rcases List.mem_cons.1 hm with rfl | hm
  · exact wpOp_step (by rw [← Array.getElem?_toList]; exact hy') (fun K hK => h K (fun b u hS hW => hK b u ⟨hS, hW hS⟩))
  · exact hs m hm
theorem AnyE.next {js : List Nat} {k : Nat} {done : Array Bool} {a : Act} {w : World} (hr : Region.ready md ops done = js) (hne : js ≠ []) (h : NextE P md ops Q S ey k done a w js) : AnyE P md ops Q S ey (k + 1) done a w :=
  ⟨fun h0 => absurd (hr ▸ h0) hne, fun j hj => h j (hr ▸ hj)⟩
theorem wp_region_E {id : Nat} {a : Act} {w : World} (ey : Nat → Bool) (S : World → Prop) (hm : P.follows .mixedOrders = true) (hS : S w.drew)
    (h : S w.drew → AnyE P .any ops Q S ey ops.size (Array.replicate ops.size false) a w.drew) : (Code.region id ops true).wp P Q a w :=
  wp_region_any hm (AnyE.any _ _ _ _ (h hS))
end
end Go.Proofs.Ytdaicdaakegdmaa
