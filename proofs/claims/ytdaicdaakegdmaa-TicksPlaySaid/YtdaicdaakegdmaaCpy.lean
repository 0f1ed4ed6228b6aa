/- The walks of Upto's refusals and of Copy. -/
import Derived.Test.YtdaicdaakegdmaaAlS
import Derived.Test.YtdaicdaakegdmaaDocOf
import Derived.Test.YtdaicdaakegdmaaDsq
import Derived.Test.YtdaicdaakegdmaaSeqB
import Derived.Test.YtdaicdaakegdmaaInC
import Derived.Test.YtdaicdaakegdmaaPai
namespace Go.Proofs.Ytdaicdaakegdmaa
open Go.RowKit Go.Maps Go.Shelf
open Go.ChangeMaps Go.WideMaps

attribute [local go_sem] Oper.semAt_some

theorem wiD_last {A : List Du} {d : Du} (h : ∀ a ∈ A, ltD a d = true) : wiD A d = A ++ [d] := by
  unfold wiD
  induction A with
  | nil => rfl
  | cons a A ih =>
    have ha := h a List.mem_cons_self
    have := ih (fun b hb => h b (List.mem_cons_of_mem _ hb))
    rw [List.takeWhile_cons, List.dropWhile_cons, if_pos ha, if_pos ha, List.cons_append, this, List.cons_append]
theorem ofS_self {now : Int} {S : List Du} (hup : S.Pairwise (fun a b => ltD a b = true)) (hnod : (S.map (·.2)).Nodup) (hok : ∀ d ∈ S, isT d.1 = true ∧ 0 ≤ d.2) (hlow : ∀ d ∈ S, now ≤ d.1) : ofS now S = S := by
  have key : ∀ k, k ≤ S.length → ofS now (S.take k) = S.take k := by
    intro k
    induction k with
    | zero => intro _; rfl
    | succ k ih =>
      intro hk
      have hlt : k < S.length := hk
      rw [ofS_step now S k hlt, ih (Nat.le_of_lt hlt)]
      have hm := gD_mem hlt
      have h1 := hok _ hm
      have h2 := hlow _ hm
      have hc : setC now (gD S k).2 (gD S k).1 = 0 := by
        unfold setC
        rw [if_neg (by rw [h1.1]; simp; omega), if_neg (by omega)]
      unfold setS
      rw [if_pos hc]
      have hw : woD (S.take k) (gD S k).2 = S.take k := by
        unfold woD
        rw [List.filter_eq_self]
        intro a ha
        obtain ⟨j, hj, rfl⟩ := List.getElem_of_mem ha
        rw [List.length_take] at hj
        have hn := hnod
        unfold List.Nodup at hn
        rw [List.pairwise_iff_getElem] at hn
        have := hn j k (by simp; omega) (by simpa using hlt) (by omega)
        rw [List.getElem_map, List.getElem_map] at this
        rw [List.getElem_take, gD_of hlt]
        simpa using this
      rw [hw, wiD_last (fun a ha => ?_)]
      · rw [List.take_add_one, List.getElem?_eq_getElem hlt, gD_of hlt]; rfl
      · obtain ⟨j, hj, rfl⟩ := List.getElem_of_mem ha
        rw [List.length_take] at hj
        have := (List.pairwise_iff_getElem.1 hup) j k (by omega) hlt (by omega)
        rw [List.getElem_take]
        rw [gD_of hlt]
        exact this
  have := key S.length (Nat.le_refl _)
  rwa [List.take_length] at this
theorem ofC_self {now : Int} {S : List Du} (hn : isT now = true) (hok : ∀ d ∈ S, isT d.1 = true ∧ 0 ≤ d.2) (hlow : ∀ d ∈ S, now ≤ d.1) : ofC now S = 0 := by
  unfold ofC
  rw [if_neg (by rw [hn]; simp), if_neg, if_neg]
  · rw [List.any_eq_true]
    rintro ⟨d, hd, h⟩
    have := hlow d hd
    simp at h
    omega
  · rw [List.any_eq_true]
    rintro ⟨d, hd, h⟩
    have := hok d hd
    unfold badD at h
    rw [this.1] at h
    simp at h
    omega
section
variable {w : World} {B p r x m : Nat} {v : Value} {now t : Int} {l S : List Du}
set_option maxRecDepth 100000 in
set_option maxHeartbeats 4000000 in
theorem upto_bad (h : Cal w B p r x m v now l) (t : Int) (ht : isT t = false ∨ t < now) :
    Calls Try.prog 10 #[.pointer (some ⟨p, 0, none⟩), .int .i64 t] w (SameP (.tuple #[.slice none 0 0, .int .i64 (if isT t = false then 2 else 6)]) w) := by
  have c0 := h.cells.1
  have c1 := h.cells.2.1
  have HIS := hide (is_any t w)
  cases h2 : isT t with
  | false =>
    rw [h2] at HIS
    clear h2 h ht
    go_enter Try.func10, Try.ntmps10
    go_wp2_with (first | (go_at_call 25; refine (none_any p _ _ c1).mono ?_; rintro e _ ⟨rfl, rfl⟩) | (go_at_call 26; refine (HIS.out).mono ?_; rintro e _ ⟨rfl, rfl⟩))
    go_ret2
    exact ⟨rfl, rfl⟩
  | true =>
    have h3 : t < now := by
      rcases ht with ht | ht
      · rw [h2] at ht; cases ht
      · exact ht
    rw [h2] at HIS
    clear h2 h ht
    go_enter Try.func10, Try.ntmps10
    go_wp2_with (first | (go_at_call 25; refine (none_any p _ _ c1).mono ?_; rintro e _ ⟨rfl, rfl⟩) | (go_at_call 26; refine (HIS.out).mono ?_; rintro e _ ⟨rfl, rfl⟩))
    go_ret2
    exact ⟨rfl, rfl⟩

/-- What a round of Copy holds: the row so far. -/
structure CpX (w : World) (B3 : Nat) (pre : List Du) (W : World) (v : Value) : Prop where
  blk : W.heap[w.heap.size]? = some (.cells #[v] 22 (0, 0))
  row : W.ownsRow B3 30 2 v pre.length (flatD pre)
  bel : Below w.heap.size w W
def CpJ (w : World) (B3 : Nat) (pre : List Du) (W : World) : Prop := ∃ v, CpX w B3 pre W v
theorem CpX.grown {w W W1 : World} {B3 : Nat} {pre : List Du} {v : Value} (h : CpX w B3 pre W v) {row : Option Nat} (hg : W.grownBy W1 row) (hr : ∀ r, row = some r → w.heap.size < r ∧ ∃ o : Obj, W.heap[r]? = some o ∧ o.isCells = false) : CpX w B3 pre W1 v := by
  have key : ∀ {k t : Nat} {cs : Array Value} {fr : Nat × Nat}, W.heap[k]? = some (.cells cs t fr) → some k ≠ row := fun hk e => by
    obtain ⟨o, h1, h2⟩ := (hr _ e.symm).2
    rw [hk] at h1
    injection h1 with h1
    subst h1
    cases h2
  refine ⟨(hg.block _ (lt_of_block h.blk) (key h.blk)).trans h.blk, own_only h.row (Only.of_grown (S := fun i => row = some i) hg (fun _ e => e)) (fun g hgo e => ?_), h.bel.grown hg h.bel.size (fun r e => by have := (hr r e).1; omega)⟩
  rcases h.row.2 with ⟨hv, _⟩ | ⟨g', cap, cur, hv, _, hb, _⟩
  · rw [hv] at hgo; cases hgo
  · rw [hv] at hgo
    injection hgo with hgo
    subst hgo
    exact key hb e.symm
theorem wpListIn_append_any {F : Fence} {n' : Nat} {P : Program} {ops : Array Oper} {rest : List Oper} {o : Oper} {a : Act} {w : World} {Q : Exit → Act → World → Prop} (hgd : o.guard = none) (s x : Operand) (t : TypeId)
    (ho : o.op = .call { callee := .builtin .append, args := #[s, x], argTypes := #[t, t] })
    (base : Nat) (e : TypeId) (z : Value) (size bytes : Nat) (hE : EI P e z size bytes) (ht : P.underlying t = some (.slice e)) (hzs : z.cells.size = size) (hsz : 0 < size)
    (v : Value) (n : Nat) (xs : List Value) (hs : a.eval s = v) (hown : w.ownsRow base e size v n xs)
    (B : Nat) (A : Option Addr) (m c : Nat) (news : List Value) (hx : a.eval x = .slice A m c) (hr : Reads w B size A m news) (h1 : ∀ u ∈ news, u.oneCell' = true)
    (h63 : n + m ≤ maxLen) (hbytes : (n + m) * bytes ≤ 140737488355328) (hbase : base ≤ w.heap.size)
    (h : ∀ v' w', w'.ownsRow base e size v' (n + m) (xs ++ news) → w.grownBy w' v.ownBlock → (v'.ownBlock = v.ownBlock ∨ v'.ownBlock = some w.heap.size) → wpListIn F n' P ops Q rest (a.put o.dst v') w') : wpListIn F n' P ops Q (o :: rest) a w :=
  wpListIn_plain hgd fun _ hK => wpIn_of (by unfold plainOp; rw [ho]) (wp_append_any s x t ho base e z size bytes hE ht hzs hsz v n xs hs hown B A m c news hx hr h1 h63 hbytes hbase fun v' w' h2 h3 h4 => hK _ _ (h v' w' h2 h3 h4))
theorem CpX.below {w W W1 : World} {B3 : Nat} {pre : List Du} {v : Value} (h : CpX w B3 pre W v) (hb : Below W.heap.size W W1) : CpX w B3 pre W1 v :=
  ⟨(hb.block _ (lt_of_block h.blk)).trans h.blk, own_below h.row hb (Nat.le_refl _), h.bel.trans (hb.mono h.bel.size)⟩
theorem CpX.push {w Wr W1 W2 : World} {B3 : Nat} {pre : List Du} {v v' : Value} {d : Du} (h : CpX w B3 pre Wr v) (hB : w.heap.size < B3) (hb : Below Wr.heap.size Wr W1)
    (hown : W2.ownsRow B3 30 2 v' (pre.length + 1) (flatD pre ++ [.int .i64 d.1, .int .i64 d.2])) (hg : W1.grownBy W2 v.ownBlock) :
    CpX w B3 (pre ++ [d]) (W2.setCell ⟨w.heap.size, 0, none⟩ v') v' ∧ OutP (fun g => g = w.heap.size ∨ B3 ≤ g) Wr (W2.setCell ⟨w.heap.size, 0, none⟩ v') := by
  have h1 := h.below hb
  have hne : v.ownBlock ≠ some w.heap.size := fun e => by have := (h.row.lt _ e).1; omega
  have hne' : v'.ownBlock ≠ some w.heap.size := fun e => by have := (hown.lt _ e).1; omega
  have hk : W2.heap[w.heap.size]? = some (.cells #[v] 22 (0, 0)) := (hg.block _ (lt_of_block h1.blk) (fun e => hne e.symm)).trans h1.blk
  have hz := h1.bel.size
  refine ⟨⟨setCell_block hk 0 _, ?_, (h1.bel.grown hg h1.bel.size (fun r e => by have := (h.row.lt r e).1; omega)).setCell (Nat.le_refl _) _⟩, ?_⟩
  · refine ownsRow_setCell_other ?_ hne' _
    rw [flatD_append, List.length_append]
    exact hown
  · refine OutP.set ?_ ⟨w.heap.size, 0, none⟩ (.inl rfl) _
    refine (OutP.of_below hb).trans ⟨hg.size, fun k hk hn => hg.block k hk (fun e => hn (.inr ?_))⟩
    have := (h.row.lt k e.symm).1
    omega
/-- What Copy leaves: another calendar. -/
def CopyP (now : Int) (S : List Du) (w : World) (e : Ending) (w' : World) : Prop := ∃ p, e = .returned (.pointer (some ⟨p, 0, none⟩)) ∧ NewP now S w p w'
theorem NewP.lower {now : Int} {S : List Du} {w W w' : World} {p : Nat} (h : NewP now S W p w') (hb : Below w.heap.size w W) : NewP now S w p w' := by
  obtain ⟨r, x, m, v, l, hc, hr, hb2⟩ := h
  exact ⟨r, x, m, v, l, CalF.lower hc hb.size, hr, hb.trans (hb2.mono hb.size)⟩
set_option maxRecDepth 100000 in
set_option maxHeartbeats 8000000 in
theorem copy_any (h : Cal w B p r x m v now l) (hS : RelD l S) (hn : isT now = true) (hlow : ∀ d ∈ S, now ≤ d.1) (hl : S.length ≤ 800000) : Calls Try.prog 19 #[.pointer (some ⟨p, 0, none⟩)] w (CopyP now S w) := by
  have HOK : Hid (∀ d ∈ S, (0 ≤ d.1 ∧ d.1 ≤ 1099511627776) ∧ 0 ≤ d.2 ∧ d.2 ≤ 9223372036854775807) := hide (fun d hd => h.ok d (hS.perm.mem_iff.2 hd))
  have HOK2 : Hid (∀ d ∈ S, isT d.1 = true ∧ 0 ≤ d.2) := hide (fun d hd => by have := HOK.out d hd; unfold isT; simp; omega)
  have HOS := hide (ofS_self hS.up hS.nod HOK2.out hlow)
  have HOC := hide (ofC_self hn HOK2.out hlow)
  have HB1 : Hid (Below w.heap.size w (w.alloc (.cells #[.slice none 0 0] 22))) := hide ((Below.refl _ _).alloc (Nat.le_refl _) _)
  have HX1 := hide (heap_alloc_new w (.cells #[.slice none 0 0] 22))
  have HC1 := hide (CalF.below h HB1.out)
  have HAL := hide (all_any HC1.out hS)
  have c1 := h.cells.2.1
  have HCA := hide h
  have HLS := hide hl
  have HSZ1 : Hid ((w.alloc (.cells #[.slice none 0 0] 22)).heap.size = w.heap.size + 1) := hide (by simp)
  clear h hS hlow hl
  refine (callsIn_wide (n := 9)).1 ?_
  refine callsIn_of_wp_marks Try.func19 rfl trivial ?_ rfl
  simp only [Try.ntmps19, List.size_toArray, List.length_cons, List.length_nil, Nat.reduceAdd, Nat.reduceSub, Array.replicate_succ, Array.replicate_zero, List.push_toArray, List.append_toArray, List.nil_append, List.cons_append]
  gi_wp2_with (refine ⟨trivial, ?_⟩; gi_at_call 25; refine (callsIn_wide.2 (none_any p _ _ c1)).mono ?_; rintro e _ ⟨rfl, rfl⟩)
  generalize w.alloc (.cells #[.slice none 0 0] 22) = w1 at *
  refine ⟨trivial, ?_⟩
  gi_at_call 15
  refine (callsIn_wide.2 HAL.out).mono ?_
  rintro e w2 ⟨bA, AL, cL, rfl, hbA, hcA, hownA, hb2⟩
  have HXA := hide hcA
  have HRA : Hid (Reads w2 w2.heap.size 2 AL S.length (flatD S)) := hide (Reads.of_own hownA)
  have HZ2 : Hid (w.heap.size + 1 ≤ w2.heap.size) := hide (by have := hb2.size; have := HSZ1.out; omega)
  have HHP : Hid (∀ g, ((g = w.heap.size ∨ w2.heap.size + 2 ≤ g) ∨ g = w2.heap.size + 1) → AL.map Addr.block ≠ some g) := hide (fun g hg e => by
    obtain ⟨_, _, hAL, _, hAL2⟩ := own_form2 hownA
    injection hAL with hAL _ _
    subst hAL
    rcases hAL2 with ⟨rfl, _, _⟩ | ⟨bb, oo, rfl⟩
    · cases e
    · injection e with e
      have e' : bb = g := e
      subst e'
      have h1 := hownA.lt bb rfl
      have h2 := HSZ1.out
      omega)
  have HX2 : Hid (CpX w (w2.heap.size + 2) [] w2 (.slice none 0 0)) := hide ⟨(hb2.block _ (lt_of_block HX1.out)).trans HX1.out, World.ownsRow_nil _ _ _ _, HB1.out.trans (hb2.mono HB1.out.size)⟩
  clear hbA hcA hownA hb2 c1
  gi_wp2_with fail
  refine wpIn_rangeSeqB (α := Du) (encs := encD) (gf := 37) (lb := #[.pointer (some ⟨bA, 0, none⟩)]) rfl (enters_of Try.func37 (by kernel_rfl) rfl) (fun g => g = w.heap.size ∨ w2.heap.size + 2 ≤ g) (fun h => by have := HZ2.out; omega) (fun h => by have := HZ2.out; omega)
    (fun W2 hb hz => dues_seq ((hb.block _ (lt_of_block HXA.out)).trans HXA.out) (HRA.out.below hb) (by omega) (by have := HLS.out; omega) HHP.out) (fun _ => rfl)
    (CpJ w (w2.heap.size + 2)) (fun _ _ _ => False)
    (fun s X Y row hs hg hr => by
      obtain ⟨v, hx⟩ := hs
      exact ⟨v, hx.grown hg (fun r e => by have := hr r e; have := HZ2.out; exact ⟨by omega, (hr r e).2⟩)⟩)
    (fun _ _ _ _ _ h _ _ => h) ⟨_, HX2.out⟩
    (fun x W => { tmps := #[.pointer (some ⟨p, 0, none⟩), undef, .pointer none, .pointer (some ⟨w.heap.size, 0, none⟩), .pointer (some ⟨W.heap.size, 0, none⟩), undef, undef, .pointer (some ⟨p, 0, none⟩), .bool false, .pointer (some ⟨p, 0, none⟩), .func (.func 37) #[] #[.pointer (some ⟨bA, 0, none⟩)], .agg #[.int .i64 x.1, .int .i64 x.2], undef, undef, undef, undef, undef, undef, undef, undef, undef, undef, undef, undef, undef, undef], defers := [] })
    (fun x W => W.alloc (.cells #[.int .i64 x.1, .int .i64 x.2] 30)) (fun x W => (Below.refl _ _).alloc (Nat.le_refl _) _) 9 ?assign ?body ?done ?stop
  case stop =>
    intro _ _ _ _ _ _ h _
    exact h.elim
  case assign =>
    intro l' pre d W' K he hK
    clear he
    obtain ⟨d1, d2⟩ := d
    simp only [encD]
    gi_wp2
    exact hK
  case body =>
    rintro l' pre d W0 Wr ⟨Wb, ⟨v1, hX0⟩, hzb, hbb⟩ ⟨hpre, hlt, hx⟩ hsz hzA hnew
    have HBN : Hid (Wr.heap[W0.heap.size]? = some (.cells #[.int .i64 d.1, .int .i64 d.2] 30 (0, 0))) := hide ((hnew _ (Nat.le_refl _)).trans (heap_alloc_new W0 _))
    have HX := hide (hX0.below hbb)
    have HW0 : Hid (w2.heap.size + 2 ≤ Wr.heap.size) := hide (by have : (W0.alloc (.cells #[.int .i64 d.1, .int .i64 d.2] 30)).heap.size = W0.heap.size + 1 := (by simp); omega)
    have HPL : Hid (pre.length + 1 ≤ 800000) := hide (by have := HLS.out; omega)
    generalize W0.heap.size = b11 at *
    clear hnew hzA hX0 hpre hbb hzb hsz hx hlt
    obtain ⟨A1, c1, rfl⟩ := own_shape HX.out.row
    have c3 := cell_of_row Wr w.heap.size 0 _ _ (0, 0) HX.out.blk
    have e0 := cell_of_row Wr b11 0 _ _ (0, 0) HBN.out
    have e1 := cell_of_row Wr b11 1 _ _ (0, 0) HBN.out
    simp only [List.getElem?_toArray, List.getElem?_cons_zero, List.getElem?_cons_succ] at c3 e0 e1
    have HRN := hide (row_new Wr d.1 d.2)
    have HR1 := hide ((HX.out.below HRN.out.1).row)
    have HTO := hide (two_one d.1 d.2)
    have HPU := hide (fun (W2 : World) (v' : Value) => HX.out.push (W1 := Wr.alloc (.cells #[.int .i64 d.1, .int .i64 d.2] 30)) (W2 := W2) (v' := v') (d := d) (by have := HZ2.out; omega) HRN.out.1)
    have G1 : Hid (pre.length + 1 ≤ maxLen) := hide (by unfold maxLen; have := HPL.out; omega)
    have G2 : Hid ((pre.length + 1) * 16 ≤ 140737488355328) := hide (by have := HPL.out; omega)
    have G3 : Hid (w2.heap.size + 2 ≤ (Wr.alloc (.cells #[.int .i64 d.1, .int .i64 d.2] 30)).heap.size) := hide (by have := HW0.out; simp; omega)
    obtain ⟨x1, x2⟩ := d
    simp only at e0 e1 HRN HR1 HTO HPU G3
    gi_wp2_with (gi_at_builtin; refine wpListIn_append_any rfl (.tmp 12) (.tmp 14) 22 rfl (w2.heap.size + 2) 30 (.agg #[.int .i64 0, .int .i64 0]) 2 16 infoD Try.underlying22 rfl (by decide) _ pre.length (flatD pre) rfl HR1.out (Wr.alloc (.cells #[.int .i64 x1, .int .i64 x2] 30)).heap.size (some ⟨Wr.heap.size, 0, none⟩) 1 1 [.int .i64 x1, .int .i64 x2] rfl HRN.out.2 HTO.out G1.out G2.out G3.out ?_; intro v' W2 hown hg _; have HQ := hide (HPU.out W2 v' hown hg); obtain ⟨A2, c2, rfl⟩ := own_shape hown; have hk3 := ((hg.block _ (by have := HRN.out.1.size; have := lt_of_block HX.out.blk; omega) (fun e => by have := (HR1.out.lt _ e.symm).1; have := HZ2.out; omega)).trans ((HRN.out.1.block _ (lt_of_block HX.out.blk)).trans HX.out.blk)); have f3 := frozen_of_row W2 w.heap.size 0 _ _ hk3; have c3' := cell_of_row W2 w.heap.size 0 _ _ (0, 0) hk3; simp only [List.getElem?_toArray, List.getElem?_cons_zero] at c3'; clear hown hg hk3)
    exact ⟨HQ.out.2, _, HQ.out.1⟩
  case done =>
    rintro D xs W hD rfl ⟨v1, hX⟩ hK
    have HK := hide hK
    have HX := hide hX
    obtain ⟨A1, c1, rfl⟩ := own_shape hX.row
    have HCW := hide (CalF.below HCA.out (hX.bel))
    have p0 := HCW.out.cells.1
    have c3 := cell_of_row W w.heap.size 0 _ _ (0, 0) hX.blk
    simp only [List.getElem?_toArray, List.getElem?_cons_zero] at c3
    have HDU : Hid (DuesW W.drew A1 xs.length xs) := hide ⟨rfl, Reads.of_own hX.row, fun d hd => by have := HOK.out d hd; omega⟩
    have HOF := hide (of_any now A1 xs.length c1 xs W.drew HDU.out (by have := HLS.out; omega))
    obtain ⟨P, hP⟩ : ∃ P : World → Prop, P = fun W => W.cell? ⟨p, 0, none⟩ = some (.int .i64 now) ∧ W.cell? ⟨w.heap.size, 0, none⟩ = some (.slice A1 xs.length c1) := ⟨_, rfl⟩
    have hP0 : P W.drew := by rw [hP]; exact ⟨p0, c3⟩
    have HP0 : Hid (∀ W', Below W.heap.size W W' → P W') := hide (fun W' hb => by rw [hP]; exact ⟨(hb.cell (lt_of_cell p0)).trans p0, (hb.cell (lt_of_cell c3)).trans c3⟩)
    clear hX hK p0 c3
    gi_wp2_with fail
    refine wpIn_mono (Q := NoPanic _) ?_ NoPanic.imp
    refine wpIn_wide.2 ?_
    refine wp_region_U 11 P (by kernel_rfl) hP0 (fun hHeld => ?_)
    refine AnyU.take (i := 0) (v := ?v1) rfl (by kernel_rfl) (by kernel_rfl) (by kernel_rfl) (by kernel_rfl) (fun _ _ _ h => h) (Or.inl ⟨by rfl, ?hy1⟩) hHeld ?r1
    case hy1 => (intro w hSw; (try dsimp only at hSw); rw [hP] at hSw; obtain ⟨z0, z1⟩ := hSw; go_simp <;> with_reducible rfl)
    simp only [Act.put, List.setIfInBounds_toArray, List.set_cons_zero, List.set_cons_succ]
    refine AnyU.take (i := 1) (v := ?v2) rfl (by kernel_rfl) (by kernel_rfl) (by kernel_rfl) (by kernel_rfl) (fun _ _ _ h => h) (Or.inl ⟨by rfl, ?hy2⟩) hHeld ?r2
    case hy2 => (intro w hSw; (try dsimp only at hSw); rw [hP] at hSw; obtain ⟨z0, z1⟩ := hSw; go_simp <;> with_reducible rfl)
    simp only [Act.put, List.setIfInBounds_toArray, List.set_cons_zero, List.set_cons_succ]
    refine AnyU.take (i := 2) (v := ?v3) rfl (by kernel_rfl) (by kernel_rfl) (by kernel_rfl) (by kernel_rfl) (fun _ _ _ h => h) (Or.inl ⟨by rfl, ?hy3⟩) hHeld ?r3
    case hy3 => (intro w hSw; (try dsimp only at hSw); rw [hP] at hSw; obtain ⟨z0, z1⟩ := hSw; go_simp <;> with_reducible rfl)
    simp only [Act.put, List.setIfInBounds_toArray, List.set_cons_zero, List.set_cons_succ]
    refine AnyU.take (i := 3) (v := ?v4) rfl (by kernel_rfl) (by kernel_rfl) (by kernel_rfl) (by kernel_rfl) (fun _ _ _ h => h) (Or.inl ⟨by rfl, ?hy4⟩) hHeld ?r4
    case hy4 => (intro w hSw; (try dsimp only at hSw); rw [hP] at hSw; obtain ⟨z0, z1⟩ := hSw; go_simp <;> with_reducible rfl)
    simp only [Act.put, List.setIfInBounds_toArray, List.set_cons_zero, List.set_cons_succ]
    refine AnyU.take (i := 4) (v := ?v5) rfl (by kernel_rfl) (by kernel_rfl) (by kernel_rfl) (by kernel_rfl) (fun _ _ _ h => h) (Or.inl ⟨by rfl, ?hy5⟩) hHeld ?r5
    case hy5 => (intro w hSw; (try dsimp only at hSw); rw [hP] at hSw; obtain ⟨z0, z1⟩ := hSw; go_simp <;> with_reducible rfl)
    simp only [Act.put, List.setIfInBounds_toArray, List.set_cons_zero, List.set_cons_succ]
    clear hHeld
    refine AnyU.next (js := [5]) (by kernel_rfl) (by simp) (NextU.cons rfl (fun K hK => ?_) NextU.nil)
    go_simp
    refine (HOF.out).mono ?_
    rintro _ W5 (⟨hbad, _⟩ | ⟨_, p', rfl, r', x', m', v', l', hc', hr', hb'⟩)
    · exact absurd HOC.out hbad
    rw [HOS.out] at hr'
    have HB5 : Hid (Below W.heap.size W W5) := hide (((Below.refl _ W).drew).trans hb')
    have HP5 := hide (HP0.out W5 HB5.out)
    have HK5 : Hid (W5.heap[D]? = some (.deferred (some []))) := hide ((HB5.out.block _ (lt_of_block HK.out)).trans HK.out)
    have HNP : Hid (NewP now xs w p' (W5.putObj D (.deferred none))) := hide (by
      have hDW : D < W.heap.size := lt_of_block HK.out
      have hgp := grownBy_putObj' W5 D (.deferred none)
      have hbw := HX.out.bel
      refine ⟨r', x', m', v', l', ?_, hr', (hbw.trans (HB5.out.mono hbw.size)).grown hgp (by have := HB5.out.size; have := hbw.size; omega) (fun k e => by injection e with e; have := HZ2.out; omega)⟩
      refine CalF.lower (CalF.only hc' (Only.of_grown (S := fun i => some D = some i) hgp (fun _ e => e)) (fun k hk e => ?_)) (show w.heap.size ≤ W.heap.size from hbw.size)
      injection e with e
      have h2 : W.heap.size ≤ k := by
        rcases hk with hk | hk
        · exact CalF.own_foot hc' k hk
        · rw [hk]; exact hc'.base.2.2.1
      omega)
    clear hb' hc' hr'
    refine hK.out _ _ (fun _ => HP5.out) (fun hHeld => ?_)
    try simp only [Act.put, List.setIfInBounds_toArray, List.set_cons_zero, List.set_cons_succ]
    clear hK K
    have hHeld := hHeld (by decide)
    refine AnyU.take (i := 6) (v := ?v6) rfl (by kernel_rfl) (by kernel_rfl) (by kernel_rfl) (by kernel_rfl) (fun _ _ _ h => h) (Or.inl ⟨by rfl, ?hy6⟩) hHeld ?r6
    case hy6 => (intro w hSw; (try dsimp only at hSw); rw [hP] at hSw; obtain ⟨z0, z1⟩ := hSw; go_simp <;> with_reducible rfl)
    simp only [Act.put, List.setIfInBounds_toArray, List.set_cons_zero, List.set_cons_succ]
    refine AnyU.take (i := 7) (v := ?v7) rfl (by kernel_rfl) (by kernel_rfl) (by kernel_rfl) (by kernel_rfl) (fun _ _ _ h => h) (Or.inl ⟨by rfl, ?hy7⟩) hHeld ?r7
    case hy7 => (intro w hSw; (try dsimp only at hSw); rw [hP] at hSw; obtain ⟨z0, z1⟩ := hSw; go_simp <;> with_reducible rfl)
    simp only [Act.put, List.setIfInBounds_toArray, List.set_cons_zero, List.set_cons_succ]
    refine AnyU.take (i := 8) (v := ?v8) rfl (by kernel_rfl) (by kernel_rfl) (by kernel_rfl) (by kernel_rfl) (fun _ _ _ h => h) (Or.inl ⟨by rfl, ?hy8⟩) hHeld ?r8
    case hy8 => (intro w hSw; (try dsimp only at hSw); rw [hP] at hSw; obtain ⟨z0, z1⟩ := hSw; go_simp <;> with_reducible rfl)
    simp only [Act.put, List.setIfInBounds_toArray, List.set_cons_zero, List.set_cons_succ]
    refine AnyU.take (i := 9) (v := ?v9) rfl (by kernel_rfl) (by kernel_rfl) (by kernel_rfl) (by kernel_rfl) (fun _ _ _ h => h) (Or.inl ⟨by rfl, ?hy9⟩) hHeld ?r9
    case hy9 => (intro w hSw; (try dsimp only at hSw); rw [hP] at hSw; obtain ⟨z0, z1⟩ := hSw; go_simp <;> with_reducible rfl)
    simp only [Act.put, List.setIfInBounds_toArray, List.set_cons_zero, List.set_cons_succ]
    refine AnyU.take (i := 10) (v := ?v10) rfl (by kernel_rfl) (by kernel_rfl) (by kernel_rfl) (by kernel_rfl) (fun _ _ _ h => h) (Or.inl ⟨by rfl, ?hy10⟩) hHeld ?r10
    case hy10 => (intro w hSw; (try dsimp only at hSw); rw [hP] at hSw; obtain ⟨z0, z1⟩ := hSw; go_simp <;> with_reducible rfl)
    simp only [Act.put, List.setIfInBounds_toArray, List.set_cons_zero, List.set_cons_succ]
    clear hHeld
    refine AnyU.over (by kernel_rfl) ?_ _
    refine NoPanic.normal ?_
    gi_wp2_with fail
    refine ⟨by simp, .inl ⟨D, _, rfl, run_takeDeferred HK5.out, ?_⟩⟩
    exact ⟨.pointer (some ⟨p', 0, none⟩), by simp [results, Try.results19, go_sem], p', rfl, HNP.out⟩
end
end Go.Proofs.Ytdaicdaakegdmaa
