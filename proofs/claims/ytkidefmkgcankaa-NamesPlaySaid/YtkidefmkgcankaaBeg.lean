/- The walks of Begins and Sorted of any table. -/
import Derived.Test.YtkidefmkgcankaaSrt
import Derived.Test.YtkidefmkgcankaaNsq
import Derived.OwnWalkIn
import Derived.Maps.OwnIn
namespace Go.Proofs.Ytkidefmkgcankaa
open Go.RowKit Go.Shelf

attribute [local go_sem] Oper.semAt_some

/-- What Begins' loop holds behind k names. -/
structure BgI (w : World) (p R : Nat) (s : ByteArray) (l : List ByteArray) (k : Nat) (W : World) : Prop where
  bel : Below w.heap.size w W
  b0 : W.heap[w.heap.size]? = some (.cells #[.pointer (some ⟨p, 0, none⟩)] 32 (0, 0))
  b1 : W.heap[w.heap.size + 1]? = some (.cells #[.string s] 9 (0, 0))
  b2 : ∃ v, W.heap[w.heap.size + 1 + 1]? = some (.cells #[v] 59 (0, 0)) ∧ W.ownsRow R 3 1 v (begP l s.data.toList k).length (nmV (begP l s.data.toList k)) ∧ (begP l s.data.toList k = [] → v = .slice none 0 0)
section
variable {w W W' : World} {p R B k : Nat} {s : ByteArray} {l : List ByteArray}
theorem BgI.own {row : Option Nat} (h : BgI w p R s l k W) (hB : w.heap.size + 3 ≤ B) (hg : W.grownBy W' row) (hr : ∀ r, row = some r → B ≤ r ∧ ∃ o : Obj, W.heap[r]? = some o ∧ o.isCells = false) : BgI w p R s l k W' := by
  obtain ⟨v, h1, h2, h3⟩ := h.b2
  have key : ∀ {j : Nat} {o : Obj}, j < w.heap.size + 3 → W.heap[j]? = some o → W'.heap[j]? = some o := fun hj ho => (hg.block _ (lt_of_block ho) (fun e => by have := (hr _ e.symm).1; omega)).trans ho
  refine ⟨h.bel.grown hg h.bel.size (fun j e => by have := (hr j e).1; omega), key (by omega) h.b0, key (by omega) h.b1, v, key (by omega) h1, own_far h2 hg ?_, h3⟩
  cases hrow : row with
  | none =>
    cases hv : v.ownBlock with
    | none => exact .inr rfl
    | some g => exact .inl (by simp)
  | some r =>
    obtain ⟨_, o, ho, hc⟩ := hr r hrow
    exact .inl (own_ne h2 ho (fun cur e => by rw [e] at hc; cases hc))
theorem BgI.cells (h : BgI w p R s l k W) : W.cell? ⟨w.heap.size, 0, none⟩ = some (.pointer (some ⟨p, 0, none⟩)) ∧ W.cell? ⟨w.heap.size + 1, 0, none⟩ = some (.string s) :=
  ⟨cell_of_row W _ 0 _ _ (0, 0) h.b0, cell_of_row W _ 0 _ _ (0, 0) h.b1⟩
theorem BgI.skip (h : BgI w p R s l k W) (hp : Lib.hasPrefix (nmB l k) s.data.toList = false) : BgI w p R s l (k + 1) W := by
  have e : begP l s.data.toList (k + 1) = begP l s.data.toList k := by rw [begP_succ, hp]; simp
  exact ⟨h.bel, h.b0, h.b1, by rw [e]; exact h.b2⟩
theorem BgI.push {v v1 : Value} {w1 : World} (h : BgI w p R s l k W) (hR : w.heap.size + 3 ≤ R) (hp : Lib.hasPrefix (nmB l k) s.data.toList = true) (hv : W.heap[w.heap.size + 1 + 1]? = some (.cells #[v] 59 (0, 0))) (hb : Below W.heap.size W W')
    (ho : W'.ownsRow R 3 1 v (begP l s.data.toList k).length (nmV (begP l s.data.toList k))) (hg : W'.grownBy w1 v.ownBlock) (ho1 : w1.ownsRow R 3 1 v1 ((begP l s.data.toList k).length + 1) (nmV (begP l s.data.toList k) ++ [.int .i64 (k : Int)])) :
    BgI w p R s l (k + 1) (w1.setCell ⟨w.heap.size + 1 + 1, 0, none⟩ v1) ∧ OutP (fun j => j = w.heap.size + 1 + 1 ∨ R ≤ j) W (w1.setCell ⟨w.heap.size + 1 + 1, 0, none⟩ v1) := by
  have e : begP l s.data.toList (k + 1) = begP l s.data.toList k ++ [k] := by rw [begP_succ, hp]; simp
  have e2 : nmV (begP l s.data.toList (k + 1)) = nmV (begP l s.data.toList k) ++ [.int .i64 (k : Int)] := by rw [e]; unfold nmV; rw [List.map_append]; rfl
  have e3 : (begP l s.data.toList (k + 1)).length = (begP l s.data.toList k).length + 1 := by rw [e, List.length_append]; rfl
  have key : ∀ {j : Nat} {o : Obj}, j < w.heap.size + 3 → W.heap[j]? = some o → w1.heap[j]? = some o := fun hj h => (hg.block _ (by have := hb.size; have := lt_of_block h; omega) (fun e => by have := (ho.lt _ e.symm).1; omega)).trans ((hb.block _ (lt_of_block h)).trans h)
  have hv1 := key (by omega) hv
  refine ⟨⟨?_, ?_, ?_, v1, setCell_block hv1 0 v1, ?_, ?_⟩, ?_⟩
  · exact ((h.bel.trans (hb.mono h.bel.size)).grown hg (by have := h.bel.size; have := hb.size; omega) (fun j e => by have := (ho.lt j e).1; omega)).setCell (by show w.heap.size ≤ w.heap.size + 1 + 1; omega) _
  · exact (Below.heap_setCell _ _ _ _ (by show w.heap.size ≠ w.heap.size + 1 + 1; omega)).trans (key (by omega) h.b0)
  · exact (Below.heap_setCell _ _ _ _ (by show w.heap.size + 1 ≠ w.heap.size + 1 + 1; omega)).trans (key (by omega) h.b1)
  · rw [e2, e3]
    exact ownsRow_setCell_other ho1 (fun e => own_ne ho1 hv1 (fun cur e' => by injection e' with _ e' _; exact absurd e' (by decide)) e) _
  · rw [e]; intro h; simp at h
  · refine OutP.set ⟨by have := hb.size; have := hg.size; omega, fun j hj hn => ?_⟩ _ (.inl rfl) _
    exact (hg.block j (by have := hb.size; omega) (fun e => hn (.inr (ho.lt _ e.symm).1))).trans (hb.block j hj)
end
/-- What Begins answers: new memory with the numbers, in the order of the names. -/
def BegPost (l : List ByteArray) (s : List UInt8) (w : World) (e : Ending) (w' : World) : Prop :=
  ∃ v r, e = .returned v ∧ BegOf l s r ∧ w'.ownsRow w.heap.size 3 1 v r.length (nmV r) ∧ Below w.heap.size w w'
theorem info3 : EI Try.prog 3 (.int .i64 0) 1 8 := by unfold EI; kernel_rfl

set_option maxRecDepth 100000 in
set_option maxHeartbeats 4000000 in
theorem begins_any {w : World} {B p m : Nat} {v : Value} {l : List ByteArray} {most : Int} (h : NT w B p v m l most) (s : ByteArray) : Calls Try.prog 24 #[.pointer (some ⟨p, 0, none⟩), .string s] w (BegPost l s.data.toList w) := by
  have hl : l.length ≤ 2000000 := by have := h.len; have := h.most; omega
  obtain ⟨A5, c5, rfl⟩ := own_shape h.row
  obtain ⟨w3, hw3⟩ : ∃ w3, w3 = ((w.alloc (.cells #[.pointer (some ⟨p, 0, none⟩)] 32)).alloc (.cells #[.string s] 9)).alloc (.cells #[.slice none 0 0] 59) := ⟨_, rfl⟩
  have hB3 : Below w.heap.size w w3 := by rw [hw3]; exact (((Below.refl _ _).alloc (Nat.le_refl _) _).alloc (by simp) _).alloc (by simp; omega) _
  have hz3 : w3.heap.size = w.heap.size + 3 := by rw [hw3]; simp
  have x0 : w3.heap[w.heap.size]? = some (.cells #[.pointer (some ⟨p, 0, none⟩)] 32 (0, 0)) := by
    rw [hw3, Below.heap_alloc _ _ _ (by simp; omega), Below.heap_alloc _ _ _ (by simp)]; exact heap_alloc_new w _
  have x1 : w3.heap[w.heap.size + 1]? = some (.cells #[.string s] 9 (0, 0)) := by
    rw [hw3, Below.heap_alloc _ _ _ (by simp)]
    have := heap_alloc_new (w.alloc (.cells #[.pointer (some ⟨p, 0, none⟩)] 32)) (.cells #[.string s] 9)
    simpa using this
  have x2 : w3.heap[w.heap.size + 1 + 1]? = some (.cells #[.slice none 0 0] 59 (0, 0)) := by
    rw [hw3]
    have := heap_alloc_new ((w.alloc (.cells #[.pointer (some ⟨p, 0, none⟩)] 32)).alloc (.cells #[.string s] 9)) (.cells #[.slice none 0 0] 59)
    simpa using this
  have hNT3 : NT w3 B p (.slice A5 l.length c5) m l most := h.below hB3
  have HALL := hide (all_any hNT3)
  have HX := hide (And.intro x0 (And.intro x1 x2))
  have HB3 := hide hB3
  have HNT := hide h
  have HN3 := hide hNT3
  have c0 := cell_of_row w3 w.heap.size 0 _ 32 (0, 0) x0
  simp only [List.getElem?_toArray, List.getElem?_cons_zero] at c0
  clear x0 x1 x2 hB3 h hNT3
  refine (callsIn_wide (n := 9)).1 ?_
  refine callsIn_of_wp_marks Try.func24 rfl trivial ?_ rfl
  simp only [Try.ntmps24, List.size_toArray, List.length_cons, List.length_nil, Nat.reduceAdd, Nat.reduceSub, Array.replicate_succ, Array.replicate_zero, List.push_toArray, List.append_toArray, List.nil_append, List.cons_append]
  gi_wp2_with fail
  rw [← hw3]
  refine ⟨trivial, (callsIn_wide.2 HALL.out).mono ?_⟩
  rintro e w1 ⟨b, A, c, rfl, hbz, hbb, hown, hb1⟩
  have hz1 := hb1.size
  have HW3 := hide hw3
  have HB1 := hide hb1
  have HBB := hide hbb
  have HOW := hide hown
  clear hw3 hb1 hbb hown c0
  have HI0 : Hid (BgI w p (w1.heap.size + 2) s l 0 w1) := hide (by
    have key : ∀ {j : Nat} {o : Obj}, w3.heap[j]? = some o → w1.heap[j]? = some o := fun h => (HB1.out.block _ (lt_of_block h)).trans h
    exact ⟨HB3.out.trans (HB1.out.mono (by omega)), key HX.out.1, key HX.out.2.1, _, key HX.out.2.2, World.ownsRow_nil _ _ _ _, fun _ => rfl⟩)
  gi_wp2_with fail
  refine wpIn_rangeSeq (α := Nat × ByteArray) (encs := encN) (E := NextN l) (S := fun xs => xs = enumL l l.length) (Sp := fun pre => pre = enumL l pre.length ∧ pre.length ≤ l.length ∧ 0 < pre.length) (gf := 48) (lb := #[.pointer (some ⟨b, 0, none⟩)]) rfl (enters_of Try.func48 (by kernel_rfl) rfl) (fun j => j = w.heap.size + 1 + 1 ∨ w1.heap.size + 2 ≤ j) (fun h => by omega) (fun h => by omega)
    (fun W2 hb hz => names_seq (B := w1.heap.size) ((hb.block _ (lt_of_block HBB.out)).trans HBB.out) ((Reads.of_own HOW.out).below hb) (by omega) hl (fun g hg e => by have := HOW.out.lt g (by cases A with | none => cases e | some a => exact e); omega)) (fun _ => rfl)
    (fun pre W => BgI w p (w1.heap.size + 2) s l pre.length W) (fun _ _ _ => False)
    (fun s X Y row hs hg hr => hs.own (B := w1.heap.size) (by omega) hg hr) (fun _ _ _ _ _ hs _ _ => hs) HI0.out
    (fun x => { tmps := #[.pointer (some ⟨p, 0, none⟩), .string s, .pointer (some ⟨w.heap.size, 0, none⟩), .pointer (some ⟨w.heap.size + 1, 0, none⟩), .slice none 0 0, .pointer (some ⟨w.heap.size + 1 + 1, 0, none⟩), .int .i64 (x.1 : Int), .string x.2, .pointer (some ⟨p, 0, none⟩), .func (.func 48) #[] #[.pointer (some ⟨b, 0, none⟩)], .int .i64 (x.1 : Int), .string x.2, undef, undef, undef, undef, undef, undef, undef, undef, undef, undef, undef], defers := [] }) 7 ?assign ?body ?done ?stop
  case assign =>
    intro l' pre x W' K he hK
    clear he
    obtain ⟨x1, x2⟩ := x
    simp only [encN]
    gi_wp2
    exact hK
  case body =>
    rintro l' pre x Wr hgi ⟨hpre, hpl, rfl⟩ hsz
    obtain ⟨k, hk⟩ : ∃ k, k = pre.length := ⟨_, rfl⟩
    have hk1 : ∀ y : Nat × ByteArray, (pre ++ [y]).length = k + 1 := fun y => by rw [List.length_append, ← hk]; rfl
    have HK1 := hide hk1
    rw [← hk] at hpl hgi ⊢
    have HGI := hide hgi
    obtain ⟨d0, d1⟩ := hgi.cells
    obtain ⟨v, hv, hown, hnil⟩ := hgi.b2
    have d2 := cell_of_row Wr _ 0 _ _ (0, 0) hv
    simp only [List.getElem?_toArray, List.getElem?_cons_zero] at d2
    have hnm : nmB l k = (l.getD k ⟨#[]⟩).data.toList := rfl
    have HPF := hide (prefix_any (l.getD k ⟨#[]⟩) s)
    rw [← hnm] at HPF
    generalize l.getD k ⟨#[]⟩ = nk at *
    cases hpx : Lib.hasPrefix (nmB l k) s.data.toList with
    | false =>
      have HS := hide (hgi.skip hpx)
      rw [hpx] at HPF
      clear hgi hv hown hnil hpre hk1 hk
      gi_wp2_with fail
      refine ⟨trivial, (callsIn_in (HPF.out _)).mono ?_⟩
      rintro e _ ⟨rfl, rfl⟩
      gi_wp2_with fail
      exact ⟨OutP.refl _ _, by show BgI w p _ s l (pre ++ [(k, nk)]).length Wr; rw [HK1.out]; exact HS.out⟩
    | true =>
      rw [hpx] at HPF
      obtain ⟨i0, hi, hzz0, hzz1, hzz2⟩ := info_parts (P := Try.prog) (e := 3) (z := .int .i64 0) (size := 1) (bytes := 8) info3
      have HPX := hide hpx
      have HV := hide hv
      have HZB : Hid (Below Wr.heap.size Wr (Wr.alloc (.cells #[.int .i64 (k : Int)] 3))) := hide ((Below.refl _ _).alloc (Nat.le_refl _) _)
      have HOZ := hide (own_below hown HZB.out (Nat.le_refl _))
      have HBL : Hid ((begP l s.data.toList k).length ≤ 2000000) := hide (by have := begP_len l s.data.toList k; omega)
      have d3 := fun o => ((Below.refl Wr.heap.size Wr).alloc (Nat.le_refl _) o).cell (p := ⟨w.heap.size + 1 + 1, 0, none⟩) (lt_of_block hv) |>.trans d2
      obtain ⟨A', c', rfl⟩ := own_shape hown
      clear hgi hv hown hnil hpre hk1 hk hpx
      gi_wp2_with fail
      refine ⟨trivial, (callsIn_in (HPF.out _)).mono ?_⟩
      rintro e _ ⟨rfl, rfl⟩
      gi_wp2_with (gi_at_builtin; refine wpListIn_append_own_at _ rfl (.tmp 15) (.tmp 17) 59 rfl (w1.heap.size + 2) 3 i0 (.int .i64 0) 1 8 Try.underlying59 hi hzz0 hzz1 hzz2 rfl (by decide) _ _ _ rfl HOZ.out ⟨Wr.heap.size, 0, none⟩ 1 1 [.int .i64 (k : Int)] rfl rfl ?c1 ?c2 ?c3 ?c4 ?c5 ?_)
      case c1 =>
        intro j u hj
        match j, hj with
        | 0, hj => simp at hj; subst hj; simp [Addr.add]
      case c2 => intro u hu; simp at hu; subst hu; rfl
      case c3 => have := HBL.out; unfold maxLen; omega
      case c4 => have := HBL.out; omega
      case c5 => simp; omega
      intro v' w4 hown' hgrow _ _
      obtain ⟨A2, c2, rfl⟩ := own_shape hown'
      have HP := hide (HGI.out.push (by omega) HPX.out HV.out HZB.out HOZ.out hgrow hown')
      have y := (hgrow.block _ (by have := lt_of_block HV.out; simp; omega) (fun e => by have := HOZ.out.lt _ e.symm; have := lt_of_block HV.out; omega)).trans ((HZB.out.block _ (lt_of_block HV.out)).trans HV.out)
      have y0 := cell_of_row w4 _ 0 _ _ (0, 0) y
      have y1 := frozen_of_row w4 _ 0 _ _ y
      simp only [List.getElem?_toArray, List.getElem?_cons_zero] at y0
      clear hown' hgrow y d2 d3
      gi_wp2_with fail
      exact ⟨HP.out.2, by show BgI w p _ s l (pre ++ [(k, nk)]).length _; rw [HK1.out]; exact HP.out.1⟩
  case done =>
    rintro D ys W hD rfl hgi hK
    rw [enumL_len] at hgi
    obtain ⟨v', hv, hown, hnil⟩ := hgi.b2
    have hbz2 := hgi.bel.size
    have hNW := HNT.out.below hgi.bel
    have d2 := cell_of_row W _ 0 _ _ (0, 0) hv
    simp only [List.getElem?_toArray, List.getElem?_cons_zero] at d2
    have HK := hide hK
    have HGI := hide hgi
    have HOV := hide hown
    have HS := hide (sortB_any hNW.nodup hl hgi.b0 hNW.blk rfl ((Reads.of_own HNT.out.row).below hgi.bel) (by omega) (by omega) hown hnil)
    clear hgi hv hown hnil hNW hK
    have hmf : ∀ (fn : Fn) (first cap : Array Value) (w : World), (Instr.makeFunc fn first cap).run Try.prog w = .ok (.func fn first cap) w := fun _ _ _ _ => rfl
    gi_wp2_with fail
    refine ⟨trivial, (callsIn_wide.2 HS.out).mono ?_⟩
    rintro e W4 ⟨rfl, r, hbr, hown4, hg4⟩
    have HBR := hide hbr
    have HO4 := hide hown4
    have HG4 := hide hg4
    have d5 : W4.cell? ⟨w.heap.size + 1 + 1, 0, none⟩ = some v' := by
      obtain ⟨v2, hv2, ho2, _⟩ := HGI.out.b2
      have e6 : some v2 = some v' := by
        have := cell_of_row W _ 0 _ _ (0, 0) hv2
        simp only [List.getElem?_toArray, List.getElem?_cons_zero] at this
        rw [← this, d2]
      injection e6 with e6
      subst e6
      have h7 := (HG4.out.block _ (lt_of_block hv2) (fun e => own_ne ho2 hv2 (fun cur e' => by injection e' with _ e' _; exact absurd e' (by decide)) e.symm)).trans hv2
      rw [cell_of_row W4 _ 0 _ _ (0, 0) h7]; rfl
    clear hbr hown4 hg4 d2
    gi_wp2_with fail
    have hne : ∀ {W : World} {k : Nat} {xs : List Value} {o : Obj}, W.ownsRow (w1.heap.size + 2) 3 1 v' k xs → W.heap[D]? = some o → o.isCells = false → v'.ownBlock ≠ some D := fun h ho hc => own_ne h ho (fun cur e => by rw [e] at hc; cases hc)
    have hK4 : W4.heap[D]? = some (.deferred (some [])) := (HG4.out.block D (lt_of_block HK.out) (fun e => hne HOV.out HK.out rfl e.symm)).trans HK.out
    refine ⟨by simp, .inl ⟨_, _, rfl, run_takeDeferred hK4, ?_⟩⟩
    refine ⟨_, results_tmp rfl _ _ _, v', r, rfl, HBR.out, ?_, ?_⟩
    · exact own_base (own_far HO4.out (grownBy_putObj' W4 D _) (.inl (hne HO4.out hK4 rfl))) (by omega)
    · refine ((HGI.out.bel.grown HG4.out hbz2 (fun j e => by have := HOV.out.lt j e; omega))).grown (grownBy_putObj' W4 D _) (by have := HG4.out.size; omega) (fun j e => by have := Option.some.inj e; omega)

  case stop =>
    rintro D c pre W _ _ h _
    exact h.elim
set_option maxHeartbeats 1000000 in
theorem sortedT_any {w : World} {B p m : Nat} {v : Value} {l : List ByteArray} {most : Int} (h : NT w B p v m l most) : Calls Try.prog 20 #[.pointer (some ⟨p, 0, none⟩)] w (BegPost l [] w) := by
  have HN := hide (begins_any h ⟨#[]⟩)
  clear h
  go_enter Try.func20, Try.ntmps20
  go_wp2_with (go_at_call 24; refine (HN.out).mono ?_; rintro e w1 ⟨v, r, rfl, hbr, ho, hb1⟩)
  go_ret
  exact ⟨v, r, rfl, hbr, ho, hb1⟩
end Go.Proofs.Ytkidefmkgcankaa
