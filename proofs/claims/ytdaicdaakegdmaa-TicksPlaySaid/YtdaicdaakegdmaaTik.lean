/- The walks of a calendar's Set, Drop, At, Len, Now, Next. -/
import Derived.Test.YtdaicdaakegdmaaHcl
namespace Go.Proofs.Ytdaicdaakegdmaa
open Go.RowKit Go.Maps Go.Shelf
open Go.ChangeMaps Go.WideMaps

section
variable {w : World} {B p r x m : Nat} {v : Value} {now : Int} {l S : List Du}
theorem len_any (h : Cal w B p r x m v now l) : Calls Try.prog 11 #[.pointer (some ⟨p, 0, none⟩)] w (SameP (.int .i64 l.length) w) := by
  have HL := hide (len_cal h)
  have c1 := h.cells.2.1
  clear h
  go_enter Try.func11, Try.ntmps11
  go_wp2_with (first | (go_at_call 25; refine (none_any p _ _ c1).mono ?_; rintro e _ ⟨rfl, rfl⟩) | (go_at_call 30; refine (HL.out).mono ?_; rintro e _ ⟨rfl, rfl⟩))
  go_ret
  exact ⟨rfl, rfl⟩
theorem now_any (h : Cal w B p r x m v now l) : Calls Try.prog 24 #[.pointer (some ⟨p, 0, none⟩)] w (SameP (.int .i64 now) w) := by
  have c0 := h.cells.1
  have c1 := h.cells.2.1
  clear h
  go_enter Try.func24, Try.ntmps24
  go_wp2_with (go_at_call 25; refine (none_any p _ _ c1).mono ?_; rintro e _ ⟨rfl, rfl⟩)
  go_ret
  exact ⟨rfl, rfl⟩
/-- What Next answers. -/
def nextV (S : List Du) : Value := match S with
  | [] => .tuple #[.agg #[.int .i64 0, .int .i64 0], .bool false]
  | d :: _ => .tuple #[duV d, .bool true]
def ValB (v : Value) (w : World) (e : Ending) (w' : World) : Prop := e = .returned v ∧ Below w.heap.size w w'
set_option maxHeartbeats 1000000 in
theorem next_any (h : Cal w B p r x m v now l) (hS : RelD l S) : Calls Try.prog 12 #[.pointer (some ⟨p, 0, none⟩)] w (ValB (nextV S) w) := by
  have hb1 : Below w.heap.size w (w.alloc (.cells #[.int .i64 0, .int .i64 0] 30)) := (Below.refl _ _).alloc (Nat.le_refl _) _
  have h1 := CalF.below h hb1
  have hx := heap_alloc_new w (.cells #[.int .i64 0, .int .i64 0] 30)
  have HLN := hide (len_any h1)
  have hlen := hS.length
  cases S with
  | nil =>
    have hl0 : l.length = 0 := by simpa using hlen
    rw [hl0] at HLN
    have HB := hide hb1
    have q0 := cell_of_row _ _ 0 _ _ (0, 0) hx
    have q1 := cell_of_row _ _ 1 _ _ (0, 0) hx
    simp only [List.getElem?_toArray, List.getElem?_cons_zero, List.getElem?_cons_succ] at q0 q1
    clear h h1 hx hS hlen
    go_enter Try.func12, Try.ntmps12
    go_wp2_with (go_at_call 11; refine (HLN.out).mono ?_; rintro e _ ⟨rfl, rfl⟩)
    refine bodyPost_ret (v := .tuple #[.agg #[.int .i64 0, .int .i64 0], .bool false]) ?_ rfl ⟨rfl, HB.out⟩
    simp [results, Try.results12, go_sem, q0, q1]
  | cons d S =>
    have hl0 : l.length = S.length + 1 := by simpa using hlen
    rw [hl0] at HLN
    obtain ⟨g, c, rfl, _⟩ := h.row.form (by omega)
    have c1 := h1.cells.2.1
    have c3 := h1.cells.2.2.2.1
    have x0 := (h1.row.cellAt (0 * 2) (by omega)).trans (flatD_at l 0 (by omega)).1
    have x1 := (h1.row.cellAt (0 * 2 + 1) (by omega)).trans (flatD_at l 0 (by omega)).2
    rw [hS.head] at x0 x1
    simp only [Nat.zero_mul, Nat.zero_add] at x0 x1
    have hne : ((S.length : Int) + 1 == 0) = false := by rw [beq_eq_false_iff_ne]; omega
    have hl1 : (0 : Int) < (l.length : Int) := by omega
    have HV : Hid (nextV (d :: S) = .tuple #[.agg #[.int .i64 d.1, .int .i64 d.2], .bool true]) := hide rfl
    obtain ⟨d1, d2⟩ := d
    simp only at x0 x1
    have HB : Hid (Below w.heap.size w (w.alloc (.cells #[.int .i64 d1, .int .i64 d2] 30))) := hide ((Below.refl _ _).alloc (Nat.le_refl _) _)
    have hx2 := heap_alloc_new w (.cells #[.int .i64 d1, .int .i64 d2] 30)
    have q0 := cell_of_row _ _ 0 _ _ (0, 0) hx2
    have q1 := cell_of_row _ _ 1 _ _ (0, 0) hx2
    simp only [List.getElem?_toArray, List.getElem?_cons_zero, List.getElem?_cons_succ] at q0 q1
    clear h h1 hx hS hlen hx2 hl0
    go_enter Try.func12, Try.ntmps12
    go_wp2_with (go_at_call 11; refine (HLN.out).mono ?_; rintro e _ ⟨rfl, rfl⟩)
    refine bodyPost_ret (v := .tuple #[.agg #[.int .i64 d1, .int .i64 d2], .bool true]) ?_ rfl ⟨rfl, HB.out⟩
    simp [results, Try.results12, go_sem, q0, q1]

/-- The document's Set: its answer; the list behind it. -/
def setC (now n t : Int) : Int := if n < 0 ∨ isT t = false then 2 else if t < now then 6 else 0
def setS (now : Int) (S : List Du) (n t : Int) : List Du := if setC now n t = 0 then wiD (woD S n) (t, n) else S
/-- What a call that turns a calendar leaves: its answer, the document's list. -/
def ActP (B p r x m : Nat) (v : Value) (now : Int) (S' : List Du) (val : Value) (w : World) (e : Ending) (w' : World) : Prop :=
  e = .returned val ∧ ∃ v' l', Cal w' B p r x m v' now l' ∧ RelD l' S' ∧ Only (Foot p r m v) w w' ∧ ∀ g, v'.ownBlock = some g → v.ownBlock = some g ∨ w.heap.size ≤ g
theorem ActP.same (h : Cal w B p r x m v now l) (hS : RelD l S) (val : Value) : ActP B p r x m v now S val w (.returned val) w := ⟨rfl, v, l, h, hS, Only.refl _ _, fun _ hg => .inl hg⟩
/-- One due at another tick, where it stands. -/
theorem CalF.retick {g c n : Nat} {f : Int → Option Nat} (h : CalF w B p r x m (.slice (some ⟨g, 0, none⟩) l.length c) now l f n) (i : Nat) (hi : i < l.length) (t : Int) (ht : 0 ≤ t ∧ t ≤ 1099511627776) :
    CalF (w.setCell ⟨g, i * 2, none⟩ (.int .i64 t)) B p r x m (.slice (some ⟨g, 0, none⟩) l.length c) now (l.set i (t, (gD l i).2)) f n := by
  have hr := h.rows
  have ne : ∀ {k : Nat}, (Value.slice (some ⟨g, 0, none⟩) l.length c).ownBlock ≠ some k → k ≠ g := fun h e => h (by rw [e]; rfl)
  have key : ∀ {k : Nat} {o : Obj}, k ≠ g → w.heap[k]? = some o → (w.setCell ⟨g, i * 2, none⟩ (.int .i64 t)).heap[k]? = some o := fun hk ho => (Below.heap_setCell _ _ _ _ hk).trans ho
  obtain ⟨D, hD, hF, hS⟩ := h.map
  have hm := ne hr.2.2.2
  have hfl : flatD (l.set i (t, (gD l i).2)) = (flatD l).set (i * 2) (.int .i64 t) := by
    rw [flatD_set]
    apply List.ext_getElem?
    intro j
    rw [List.getElem?_set]
    by_cases e : i * 2 + 1 = j
    · subst e
      rw [if_pos rfl, if_pos (by rw [List.length_set, flatD_length]; omega), List.getElem?_set_ne (by omega)]
      exact (flatD_at l i hi).2.symm
    · rw [if_neg e]
  refine ⟨key (ne hr.1) h.tk, key (ne hr.2.1) h.rw_, key (ne hr.2.2.1) h.box, ?_, ⟨D, hD.setCell (a := ⟨g, i * 2, none⟩) hm _, hF, hS⟩, h.base, by rw [set_nums]; exact h.nod, by rw [List.length_set]; exact h.len, fun d hd => ?_⟩
  · rw [hfl, List.length_set]
    exact (h.row.stored (i * 2) _).1
  · rcases List.mem_or_eq_of_mem_set hd with h1 | rfl
    · exact h.ok d h1
    · exact ⟨ht, (h.ok _ (gD_mem hi)).2⟩

set_option maxRecDepth 100000 in
set_option maxHeartbeats 8000000 in
theorem set_any (h : Cal w B p r x m v now l) (hS : RelD l S) (hBw : B ≤ w.heap.size) (n t : Int) (hn : -9223372036854775808 ≤ n ∧ n ≤ 9223372036854775807) (hl : l.length + 1 ≤ 1000000) :
    Calls Try.prog 9 #[.pointer (some ⟨p, 0, none⟩), .int .i64 n, .int .i64 t] w (ActP B p r x m v now (setS now S n t) (.int .i64 (setC now n t)) w) := by
  have c1 := h.cells.2.1
  have HIS := hide (fun W => is_any t W)
  by_cases h1 : n < 0
  · have e1 : setC now n t = 2 := if_pos (.inl h1)
    have e2 : setS now S n t = S := by unfold setS; rw [if_neg (by rw [e1]; decide)]
    have HF := hide (ActP.same h hS (.int .i64 2))
    rw [e1, e2]
    clear h hS e1 e2
    go_enter Try.func9, Try.ntmps9
    go_wp2_with (first | (go_at_call 25; refine (none_any p _ _ c1).mono ?_; rintro e _ ⟨rfl, rfl⟩) | (go_at_call 26; refine (HIS.out _).mono ?_; rintro e _ ⟨rfl, rfl⟩))
    go_ret
    exact HF.out
  · cases h2 : isT t with
    | false =>
      have e1 : setC now n t = 2 := if_pos (.inr h2)
      have e2 : setS now S n t = S := by unfold setS; rw [if_neg (by rw [e1]; decide)]
      have HF := hide (ActP.same h hS (.int .i64 2))
      rw [e1, e2]
      rw [h2] at HIS
      clear h hS e1 e2 h2
      go_enter Try.func9, Try.ntmps9
      go_wp2_with (first | (go_at_call 25; refine (none_any p _ _ c1).mono ?_; rintro e _ ⟨rfl, rfl⟩) | (go_at_call 26; refine (HIS.out _).mono ?_; rintro e _ ⟨rfl, rfl⟩))
      go_ret
      exact HF.out
    | true =>
      have c0 := h.cells.1
      rw [h2] at HIS
      have ht : 0 ≤ t ∧ t ≤ 1099511627776 := by unfold isT at h2; simpa using h2
      by_cases h3 : t < now
      · have e1 : setC now n t = 6 := by unfold setC; rw [if_neg (by rw [h2]; simp; omega), if_pos h3]
        have e2 : setS now S n t = S := by unfold setS; rw [if_neg (by rw [e1]; decide)]
        have HF := hide (ActP.same h hS (.int .i64 6))
        rw [e1, e2]
        clear h hS e1 e2 h2
        go_enter Try.func9, Try.ntmps9
        go_wp2_with (first | (go_at_call 25; refine (none_any p _ _ c1).mono ?_; rintro e _ ⟨rfl, rfl⟩) | (go_at_call 26; refine (HIS.out _).mono ?_; rintro e _ ⟨rfl, rfl⟩))
        go_ret
        exact HF.out
      · have e1 : setC now n t = 0 := by unfold setC; rw [if_neg (by rw [h2]; simp; omega), if_neg h3]
        have e2 : setS now S n t = wiD (woD S n) (t, n) := if_pos e1
        rw [e1, e2]
        have c2 := h.cells.2.2.1
        have hkey := keyOf_int_mk (P := Try.prog) Try.underlying2 (WalkArith.wf_i64 (n := n) (by omega))
        obtain ⟨D, hD, hF, hSz⟩ := h.map
        have hnod := hS.lnod
        cases hp : posD l n with
        | none =>
          have hhas : Maps.has D (.int .i64 n) = false := by rw [hF.has, hp]; rfl
          have hwo : woD S n = S := woD_not (fun y hy => posD_none.1 hp y (hS.perm.mem_iff.2 hy))
          rw [hwo]
          have HPU := hide (hpush_any h hBw (t, n) hp ⟨ht, by omega, hn.2⟩ hl)
          have HRL := hide (hS.push (t, n) (fun y hy => posD_none.1 hp y (hS.perm.mem_iff.2 hy)))
          clear h hS hF hSz hp hwo e1 e2 h2 hnod
          go_enter Try.func9, Try.ntmps9
          go_wp2_with (first | (go_at_call 25; refine (none_any p _ _ c1).mono ?_; rintro e _ ⟨rfl, rfl⟩) | (go_at_call 26; refine (HIS.out _).mono ?_; rintro e _ ⟨rfl, rfl⟩) | (at_lookup; refine wpList_lookup_own_ok_int _ rfl _ _ 66 rfl 2 3 .i64 law2 Try.underlying66 Try.underlying3 (zero3 _) m l.length D rfl hD _ (.int .i64 n) rfl hkey ?_; intro c hat hwc) | (go_at_call 28; refine (HPU.out).mono ?_; rintro _ w2 ⟨rfl, v2, hc2, ho2, hv2⟩; have HC2 := hide hc2; have HO2 := hide ho2; have HV2 := hide hv2; clear hc2 ho2 hv2))
          go_ret
          exact ⟨rfl, v2, _, HC2.out, HRL.out, HO2.out, HV2.out⟩
        | some i =>
          obtain ⟨hi, hin⟩ := posD_some hp
          have hhas : Maps.has D (.int .i64 n) = true := by rw [hF.has, hp]; rfl
          have hat0 := hide (hF.at_ n i hp)
          obtain ⟨g, c, rfl, _⟩ := h.row.form (by omega)
          have c3 := h.cells.2.2.2.1
          have x0 := (h.row.cellAt (i * 2) (by omega)).trans (flatD_at l i hi).1
          have fx := h.row.frozenAt (i * 2)
          have hc1 := h.retick i hi t ht
          have hc2 : Cal (w.setCell ⟨g, i * 2, none⟩ (.int .i64 t)) B p r x m (.slice (some ⟨g, 0, none⟩) l.length c) now (l.set i (t, (gD l i).2)) := by
            unfold Cal
            rw [posD_nums (set_nums l i t), List.length_set]
            exact hc1
          have HFX := hide (fix_any hc2 i (by rw [List.length_set]; exact hi))
          have HRL : Hid (RelD (mendD (l.set i (t, (gD l i).2)) i (l.set i (t, (gD l i).2)).length) (wiD (woD S n) (t, n))) := hide (by
            have := hS.fix hi t
            rw [hin] at this
            unfold fixD at this
            rw [hin, List.length_set]
            exact this)
          have HON : Hid (Only (Foot p r m (.slice (some ⟨g, 0, none⟩) l.length c)) w (w.setCell ⟨g, i * 2, none⟩ (.int .i64 t))) := hide ((Only.refl _ w).set ⟨g, i * 2, none⟩ (.inr (.inr (.inr rfl))) _)
          have hc1' := hc2.cells.2.1
          have hi1 : (i : Int) < (l.length : Int) := by omega
          have hi2 : (0 : Int) ≤ (i : Int) := by omega
          clear h hS hF hSz hp e1 e2 h2 hnod hc1 hc2 hin
          go_enter Try.func9, Try.ntmps9
          go_wp2_with (first | (go_at_call 25; refine (none_any p _ _ c1).mono ?_; rintro e _ ⟨rfl, rfl⟩) | (go_at_call 26; refine (HIS.out _).mono ?_; rintro e _ ⟨rfl, rfl⟩) | (at_lookup; refine wpList_lookup_own_ok_int _ rfl _ _ 66 rfl 2 3 .i64 law2 Try.underlying66 Try.underlying3 (zero3 _) m l.length D rfl hD _ (.int .i64 n) rfl hkey ?_; intro c' hat hwc; obtain rfl : c' = (i : Int) := (Lit.int.inj (DataW.lit.inj (hat.symm.trans hat0.out))).2; clear hat hwc) | (go_at_call 27; refine (HFX.out).mono ?_; rintro _ w2 ⟨rfl, hc2, ho2⟩; have HC2 := hide hc2; have HO2 := hide ho2; clear hc2 ho2))
          go_ret
          exact ⟨rfl, _, _, HC2.out, HRL.out, HON.out.trans HO2.out (fun _ _ h => h), fun _ hg => .inl hg⟩
end
end Go.Proofs.Ytdaicdaakegdmaa
