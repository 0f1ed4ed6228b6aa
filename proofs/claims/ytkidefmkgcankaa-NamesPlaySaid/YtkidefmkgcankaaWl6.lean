/- What one more calendar put aside leaves. -/
import Derived.Test.YtkidefmkgcankaaWld
namespace Go.Proofs.Ytkidefmkgcankaa
open Go.RowKit Go.Maps Go.Shelf
open Go.ChangeMaps Go.WideMaps

theorem infoPN : EI Try.prog 32 (.pointer none) 1 8 := by unfold EI; kernel_rfl
theorem infoPD : EI Try.prog 34 (.pointer none) 1 8 := by unfold EI; kernel_rfl
theorem ptr_one (p : Nat) : ∀ u ∈ [ptrV p], u.oneCell' = true := by intro u hu; obtain rfl := List.mem_singleton.1 hu; rfl
theorem ptr_new (w : World) (p t : Nat) : Below w.heap.size w (w.alloc (.cells #[ptrV p] t)) ∧ Reads (w.alloc (.cells #[ptrV p] t)) (w.alloc (.cells #[ptrV p] t)).heap.size 1 (some ⟨w.heap.size, 0, none⟩) 1 [ptrV p] := by
  have hx := heap_alloc_new w (.cells #[ptrV p] t)
  refine ⟨(Below.refl _ _).alloc (Nat.le_refl _) _, rfl, fun _ => ⟨_, 0, rfl, lt_of_block hx, fun j u hu => ?_⟩⟩
  match j, hu with
  | 0, hu => injection hu with hu; subst hu; exact cell_of_row _ _ 0 _ _ (0, 0) hx
  | j + 1, hu => simp at hu
section
variable {B M wp p0 p1 q0 q1 p : Nat} {ps qs : List Nat} {vo vw v' : Value} {W W1 W2 : World}
theorem RowsW.push_o (h : RowsW B wp p0 p1 q0 q1 ps qs vo vw W1) (hown : W2.ownsRow B 32 1 v' (ps.length + 1) (ps.map ptrV ++ [ptrV p])) (hg : W1.grownBy W2 vo.ownBlock) (hat : v'.ownBlock = vo.ownBlock ∨ v'.ownBlock = some W1.heap.size) :
    W2.heap[wp]? = some (.cells #[ptrV p0, ptrV p1, ptrV q0, ptrV q1, vo, vw] 39 (0, 0)) ∧ RowsW B wp p0 p1 q0 q1 (ps ++ [p]) qs v' vw (W2.setCell ⟨wp, 4, none⟩ v') ∧ Only (OwW wp vo vw) W1 (W2.setCell ⟨wp, 4, none⟩ v') ∧ (∀ k, OwW wp v' vw k → OwW wp vo vw k ∨ k = W1.heap.size) := by
  obtain ⟨a1, a2, a3⟩ := h.apart
  have hw := lt_of_block h.blk
  have hk : W2.heap[wp]? = some (.cells #[ptrV p0, ptrV p1, ptrV q0, ptrV q1, vo, vw] 39 (0, 0)) := (hg.block _ hw (fun e => a1 e.symm)).trans h.blk
  have hne : v'.ownBlock ≠ some wp := fun e => by
    rcases hat with h1 | h1
    · exact a1 (h1 ▸ e)
    · rw [h1] at e; injection e with e; omega
  have hq2 := own_only h.rq (Only.of_grown (S := fun i => vo.ownBlock = some i) hg (fun _ e => e)) (fun g hgq e => a3 g e hgq)
  refine ⟨hk, ⟨setCell_block hk 4 _, ?_, ownsRow_setCell_other hq2 a2 _, h.base⟩, ?_, ?_⟩
  · refine ownsRow_setCell_other ?_ hne _
    rw [List.length_append, List.map_append]
    exact hown
  · exact Only.set (S := OwW wp vo vw) (Only.of_grown hg (fun k e => .inr (.inl e))) ⟨wp, 4, none⟩ (.inl rfl) _
  · rintro k (e | e | e)
    · exact .inl (.inl e)
    · rcases hat with h1 | h1
      · exact .inl (.inr (.inl (h1 ▸ e)))
      · rw [h1] at e; injection e with e; exact .inr e.symm
    · exact .inl (.inr (.inr e))
theorem RowsW.push_q (h : RowsW B wp p0 p1 q0 q1 ps qs vo vw W1) (hown : W2.ownsRow B 34 1 v' (qs.length + 1) (qs.map ptrV ++ [ptrV p])) (hg : W1.grownBy W2 vw.ownBlock) (hat : v'.ownBlock = vw.ownBlock ∨ v'.ownBlock = some W1.heap.size) :
    W2.heap[wp]? = some (.cells #[ptrV p0, ptrV p1, ptrV q0, ptrV q1, vo, vw] 39 (0, 0)) ∧ RowsW B wp p0 p1 q0 q1 ps (qs ++ [p]) vo v' (W2.setCell ⟨wp, 5, none⟩ v') ∧ Only (OwW wp vo vw) W1 (W2.setCell ⟨wp, 5, none⟩ v') ∧ (∀ k, OwW wp vo v' k → OwW wp vo vw k ∨ k = W1.heap.size) := by
  obtain ⟨a1, a2, a3⟩ := h.apart
  have hw := lt_of_block h.blk
  have hk : W2.heap[wp]? = some (.cells #[ptrV p0, ptrV p1, ptrV q0, ptrV q1, vo, vw] 39 (0, 0)) := (hg.block _ hw (fun e => a2 e.symm)).trans h.blk
  have hne : v'.ownBlock ≠ some wp := fun e => by
    rcases hat with h1 | h1
    · exact a2 (h1 ▸ e)
    · rw [h1] at e; injection e with e; omega
  have ho2 := own_only h.ro (Only.of_grown (S := fun i => vw.ownBlock = some i) hg (fun _ e => e)) (fun g hgq e => a3 g hgq e)
  refine ⟨hk, ⟨setCell_block hk 5 _, ownsRow_setCell_other ho2 a1 _, ?_, h.base⟩, ?_, ?_⟩
  · refine ownsRow_setCell_other ?_ hne _
    rw [List.length_append, List.map_append]
    exact hown
  · exact Only.set (S := OwW wp vo vw) (Only.of_grown hg (fun k e => .inr (.inr e))) ⟨wp, 5, none⟩ (.inl rfl) _
  · rintro k (e | e | e)
    · exact .inl (.inl e)
    · exact .inl (.inr (.inl e))
    · rcases hat with h1 | h1
      · exact .inl (.inr (.inr (h1 ▸ e)))
      · rw [h1] at e; injection e with e; exact .inr e.symm
end
section
variable {B M wp : Nat} {X : Bool → Pr} {os : List Pr} {vo vw : Value} {W W1 W2 : World}
/-- The pointer of a calendar put in. -/
theorem RowsW.put {ps qs : List Nat} {b : Bool} {kb : Nat} (hkb : kb < 2) (hb : b = decide (kb = 1)) (h : RowsW B wp (X false).p (X true).p (X false).q (X true).q ps qs vo vw W) {Z : Pr} (hq : Z.q = (X b).q) :
    RowsW B wp (updX X b Z false).p (updX X b Z true).p (updX X b Z false).q (updX X b Z true).q ps qs vo vw (W.setCell ⟨wp, kb, none⟩ (ptrV Z.p)) := by
  obtain ⟨a1, a2, _⟩ := h.apart
  have hk := setCell_block h.blk kb (ptrV Z.p)
  refine ⟨?_, ownsRow_setCell_other h.ro a1 _, ownsRow_setCell_other h.rq a2 _, h.base⟩
  have : kb = 0 ∨ kb = 1 := by omega
  rcases this with rfl | rfl
  · have hb : b = false := by rw [hb]; decide
    subst hb
    have e1 : updX X false Z false = Z := updX_same _ _ _
    have e2 : updX X false Z true = X true := updX_other X false Z
    rw [e1, e2, hq]
    exact hk
  · have hb : b = true := by rw [hb]; decide
    subst hb
    have e1 : updX X true Z true = Z := updX_same _ _ _
    have e2 : updX X true Z false = X false := updX_other X true Z
    rw [e1, e2, hq]
    exact hk
theorem updX_all {b c : Bool} {p m k : Nat} {v : Value} (h : (updX X b ⟨p, m, (X b).q, v, (X b).vd, (X b).l, (X b).most⟩ c).All k) : (X c).All k ∨ Foot p m v k := by
  rcases bool_two b c with rfl | rfl
  · rw [updX_same] at h
    rcases h with (h | h) | h
    · exact .inr h
    · exact .inl (.inl (.inr h))
    · exact .inl (.inr h)
  · rw [updX_other] at h; exact .inl h
theorem StW.aside3 {W3 : World} {vo' vw' : Value} {b : Bool} {kb p m q' : Nat} {v : Value} (hrw : RowsW B wp (X false).p (X true).p (X false).q (X true).q (os.map Pr.p ++ [(X b).p]) (os.map Pr.q ++ [q']) vo' vw' W1) (hp : PrsW B M X os W1)
    (hd : DocT W1 B q' (X b).vd (X b).l (X b).most) (hq' : ∀ c, ¬ (X c).All q') (how : ∀ k, OwW wp vo' vw' k → (∀ c, ¬ (X c).All k) ∧ (∀ Y ∈ os, ¬ Y.All k) ∧ k ≠ q') (hkb : kb < 2) (hb : b = decide (kb = 1))
    (hbel : Below W1.heap.size W1 W3) (hc : NT W3 W1.heap.size p v m (X b).l (X b).most) (hB : B ≤ W1.heap.size) :
    StW B M wp (updX X b ⟨p, m, (X b).q, v, (X b).vd, (X b).l, (X b).most⟩) (os ++ [⟨(X b).p, (X b).m, q', (X b).v, (X b).vd, (X b).l, (X b).most⟩]) vo' vw' (W3.setCell ⟨wp, kb, none⟩ (ptrV p)) := by
  have hge : ∀ k, Foot p m v k → W1.heap.size ≤ k := by
    exact hc.own_foot
  have hown : ∀ k, OwW wp vo' vw' k → (∀ c, ¬ (updX X b ⟨p, m, (X b).q, v, (X b).vd, (X b).l, (X b).most⟩ c).All k) ∧ ∀ Y ∈ os ++ [⟨(X b).p, (X b).m, q', (X b).v, (X b).vd, (X b).l, (X b).most⟩], ¬ Y.All k := fun k hk => by
    refine ⟨fun c hA => ?_, fun Y hY hA => ?_⟩
    · rcases updX_all hA with e | e
      · exact (how k hk).1 c e
      · have := hge k e
        have := (hrw.lt k hk).2
        omega
    · rcases List.mem_append.1 hY with hY | hY
      · exact (how k hk).2.1 Y hY hA
      · obtain rfl := List.mem_singleton.1 hY
        rcases hA with (hA | hA) | hA
        · exact (how k hk).1 b (.inl (.inl hA))
        · exact (how k hk).2.2 hA
        · exact (how k hk).1 b (.inr hA)
  have hpr := hp.aside2 b hd hq' hbel hc hB
  refine ⟨?_, hpr.only (T := fun i => i = wp) (Only.set (S := fun i => i = wp) (Only.refl _ W3) ⟨wp, kb, none⟩ rfl _) (fun k e => by rw [e]; exact hown wp (.inl rfl)), hown⟩
  rw [List.map_append, List.map_append]
  exact RowsW.put hkb hb (hrw.below hbel) rfl
theorem StW.copied {W3 : World} {b : Bool} {kb p m : Nat} {v : Value} (h : StW B M wp X os vo vw W) (hkb : kb < 2) (hb : b = decide (kb = 1)) (hbel : Below W.heap.size W W3) (hc : NT W3 W.heap.size p v m (X b).l (X b).most) (hB : B ≤ W.heap.size) :
    StW B M wp (updX X b ⟨p, m, (X b).q, v, (X b).vd, (X b).l, (X b).most⟩) os vo vw (W3.setCell ⟨wp, kb, none⟩ (ptrV p)) := by
  have hge : ∀ k, Foot p m v k → W.heap.size ≤ k := by
    exact hc.own_foot
  have hown : ∀ k, OwW wp vo vw k → (∀ c, ¬ (updX X b ⟨p, m, (X b).q, v, (X b).vd, (X b).l, (X b).most⟩ c).All k) ∧ ∀ Y ∈ os, ¬ Y.All k := fun k hk => by
    refine ⟨fun c hA => ?_, (h.own k hk).2⟩
    rcases updX_all hA with e | e
    · exact (h.own k hk).1 c e
    · have := hge k e
      have := (h.rows.lt k hk).2
      omega
  have hpr := h.prs.fresh b hbel hc hB
  exact ⟨RowsW.put hkb hb (h.rows.below hbel) rfl, hpr.only (T := fun i => i = wp) (Only.set (S := fun i => i = wp) (Only.refl _ W3) ⟨wp, kb, none⟩ rfl _) (fun k e => by rw [e]; exact hown wp (.inl rfl)), hown⟩
end
end Go.Proofs.Ytkidefmkgcankaa
