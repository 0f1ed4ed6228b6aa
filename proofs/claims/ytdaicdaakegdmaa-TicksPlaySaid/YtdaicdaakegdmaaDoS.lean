/- The document's calendar in memory; its New, Set. -/
import Derived.Test.YtdaicdaakegdmaaDoc
namespace Go.Proofs.Ytdaicdaakegdmaa
open Go.RowKit Go.Maps Go.Shelf
open Go.ChangeMaps Go.WideMaps

theorem own_form2 {w : World} {B e size n : Nat} {v : Value} {xs : List Value} (h : w.ownsRow B e size v n xs) : ∃ A c, v = .slice A n c ∧ n ≤ c ∧ ((A = none ∧ n = 0 ∧ c = 0) ∨ ∃ b o, A = some ⟨b, o, none⟩) := by
  obtain ⟨A, c, hv, hnc⟩ := own_sh h
  refine ⟨A, c, hv, hnc, ?_⟩
  rcases h.2 with ⟨h1, h2⟩ | ⟨g, cap, cur, h1, _⟩
  · rw [hv] at h1
    injection h1 with h3 h4 h5
    exact .inl ⟨h3, h4, h5⟩
  · rw [hv] at h1
    injection h1 with h3
    exact .inr ⟨g, 0, h3⟩
/-- A list of dues that stands in memory, to be read: its array lies in a block of B or above. -/
structure SeqW (B : Nat) (w : World) (v : Value) (S : List Du) : Prop where
  rd : ∃ A c, v = .slice A S.length c ∧ S.length ≤ c ∧ ((A = none ∧ S.length = 0 ∧ c = 0) ∨ ∃ b o, A = some ⟨b, o, none⟩) ∧ Reads w w.heap.size 2 A S.length (flatD S)
  at_ : ∀ g, v.ownBlock = some g → B ≤ g ∧ g < w.heap.size
theorem SeqW.of_own {B : Nat} {w : World} {v : Value} {S : List Du} (h : RowD B w v S) : SeqW B w v S := by
  refine ⟨?_, fun g hg => h.lt g hg⟩
  obtain ⟨A, c, rfl, hnc, hA⟩ := own_form2 h
  exact ⟨A, c, rfl, hnc, hA, Reads.of_own h⟩
theorem SeqW.only {B : Nat} {w w' : World} {v : Value} {S : List Du} {T : Nat → Prop} (h : SeqW B w v S) (ho : Only T w w') (hT : ∀ g, v.ownBlock = some g → ¬ T g) : SeqW B w' v S := by
  obtain ⟨⟨A, c, rfl, hnc, hA, hr⟩, ha⟩ := h
  refine ⟨⟨A, c, rfl, hnc, hA, hr.1, fun hn => ?_⟩, fun g hg => ⟨(ha g hg).1, Nat.lt_of_lt_of_le (ha g hg).2 ho.size⟩⟩
  obtain ⟨b, o, rfl, hb, hc⟩ := hr.2 hn
  refine ⟨b, o, rfl, Nat.lt_of_lt_of_le hb ho.size, fun j u hu => ?_⟩
  rw [← hc j u hu]
  exact World.cell?_of_block (w := w) (ho.block b hb (hT b rfl))
theorem SeqW.below {B : Nat} {w w' : World} {v : Value} {S : List Du} (h : SeqW B w v S) (hb : Below w.heap.size w w') : SeqW B w' v S := h.only (T := fun _ => False) (Only.of_below hb) (fun _ _ h => h)
/-- The document's calendar. -/
structure DocW (w : World) (B q : Nat) (now : Int) (v : Value) (S : List Du) : Prop where
  blk : w.heap[q]? = some (.cells #[.int .i64 now, v] 45 (0, 0))
  row : SeqW B w v S
  ap : ∀ g, v.ownBlock = some g → g ≠ q
  base : B ≤ q
  len : S.length ≤ 1000000
section
variable {w w' : World} {B q : Nat} {now : Int} {v : Value} {S : List Du}
theorem DocW.below (h : DocW w B q now v S) (hb : Below w.heap.size w w') : DocW w' B q now v S :=
  ⟨(hb.block _ (lt_of_block h.blk)).trans h.blk, h.row.below hb, h.ap, h.base, h.len⟩
theorem DocW.cells (h : DocW w B q now v S) : w.cell? ⟨q, 0, none⟩ = some (.int .i64 now) ∧ w.cell? ⟨q, 1, none⟩ = some v :=
  ⟨cell_of_row w q 0 _ _ (0, 0) h.blk, cell_of_row w q 1 _ _ (0, 0) h.blk⟩
/-- What a call that turns the document's calendar leaves. -/
def DocP (B q : Nat) (v : Value) (now : Int) (S' : List Du) (val : Value) (w : World) (e : Ending) (w' : World) : Prop :=
  e = .returned val ∧ ∃ v', DocW w' B q now v' S' ∧ Only (fun k => k = q) w w' ∧ ∀ g, v'.ownBlock = some g → v.ownBlock = some g ∨ w.heap.size ≤ g
theorem setS_le (now n t : Int) (S : List Du) : (setS now S n t).length ≤ S.length + 1 := by
  unfold setS
  split
  · rw [(wiD_perm _ _).length_eq, List.length_cons]
    have := woD_len S n
    omega
  · omega
set_option maxRecDepth 100000 in
set_option maxHeartbeats 4000000 in
theorem docSet_any (h : DocW w B q now v S) (hBw : B ≤ w.heap.size) (n t : Int) (hl : S.length + 1 ≤ 1000000) :
    Calls Try.prog 33 #[.pointer (some ⟨q, 0, none⟩), .int .i64 n, .int .i64 t] w (DocP B q v now (setS now S n t) (.int .i64 (setC now n t)) w) := by
  have HIS := hide (fun W => docIs_any t W)
  have HD := hide h
  obtain ⟨c0, c1⟩ := h.cells
  have same : ∀ c, setC now n t = c → c ≠ 0 → DocP B q v now (setS now S n t) (.int .i64 (setC now n t)) w (.returned (.int .i64 c)) w := fun c hc h0 => by
    unfold setS
    rw [if_neg (by rw [hc]; exact h0), hc]
    exact ⟨rfl, v, HD.out, Only.refl _ _, fun g hg => .inl hg⟩
  have HSM := hide same
  clear h same
  by_cases h1 : n < 0
  · have HE : Hid (setC now n t = 2) := hide (if_pos (.inl h1))
    go_enter Try.func33, Try.ntmps33
    go_wp2_with (go_at_call 32; refine (HIS.out _).mono ?_; rintro e _ ⟨rfl, rfl⟩)
    go_ret
    exact HSM.out 2 HE.out (by decide)
  · cases h2 : isT t with
    | false =>
      have HE : Hid (setC now n t = 2) := hide (if_pos (.inr h2))
      rw [h2] at HIS
      clear h2
      go_enter Try.func33, Try.ntmps33
      go_wp2_with (go_at_call 32; refine (HIS.out _).mono ?_; rintro e _ ⟨rfl, rfl⟩)
      go_ret
      exact HSM.out 2 HE.out (by decide)
    | true =>
      have hno : ¬ (n < 0 ∨ isT t = false) := by rw [h2]; simp; omega
      by_cases h3 : t < now
      · have HE : Hid (setC now n t = 6) := hide (by unfold setC; rw [if_neg hno, if_pos h3])
        rw [h2] at HIS
        clear h2 hno
        go_enter Try.func33, Try.ntmps33
        go_wp2_with (go_at_call 32; refine (HIS.out _).mono ?_; rintro e _ ⟨rfl, rfl⟩)
        go_ret
        exact HSM.out 6 HE.out (by decide)
      · have HE : Hid (setC now n t = 0) := hide (by unfold setC; rw [if_neg hno, if_neg h3])
        rw [h2] at HIS
        clear h2 hno
        obtain ⟨A, c, rfl, hnc, hA, hrd⟩ := HD.out.row.rd
        have HW := hide (without_any A c S n w hrd (by omega))
        clear hA hnc hrd
        go_enter Try.func33, Try.ntmps33
        go_wp2_with (go_at_call 32; refine (HIS.out _).mono ?_; rintro e _ ⟨rfl, rfl⟩)
        refine (HW.out).mono ?_
        rintro _ w1 ⟨v1, rfl, hr1, hb1⟩
        have HR1 := hide hr1
        have HB1 := hide hb1
        obtain ⟨A1, c1', rfl, hnc1, hA1⟩ := own_form2 hr1
        have HV := hide (with_any A1 c1' (woD S n) (t, n) w1 (Reads.of_own hr1) hnc1 (by have := woD_len S n; omega) hA1)
        clear hr1 hb1 hA1 hnc1
        go_wp2_with fail
        refine (HV.out).mono ?_
        rintro _ w2 ⟨v2, rfl, hr2, hb2⟩
        have HD2 := hide (HD.out.below (HB1.out.trans (hb2.mono HB1.out.size)))
        have HB2 : Hid (Below w.heap.size w w2) := hide (HB1.out.trans (hb2.mono HB1.out.size))
        obtain ⟨A2, c2', rfl⟩ := own_shape hr2
        have HR2 := hide hr2
        obtain ⟨e0, e1⟩ := HD2.out.cells
        have f1 := frozen_of_row w2 q 1 _ _ HD2.out.blk
        have HNE : Hid (∀ g, (Value.slice A2 (wiD (woD S n) (t, n)).length c2').ownBlock = some g → g ≠ q) := hide (fun g hg e => own_ne HR2.out HD2.out.blk (fun cur e => by injection e with _ e _; exact absurd e (by decide)) (e ▸ hg))
        clear hr2 hb2 c0 c1
        go_wp2_with fail
        go_ret
        refine ⟨by rw [HE.out]; rfl, .slice A2 (wiD (woD S n) (t, n)).length c2', ⟨?_, ?_, HNE.out, HD2.out.base, ?_⟩, Only.set (S := fun k => k = q) (Only.of_below HB2.out) ⟨q, 1, none⟩ rfl _, fun g hg => .inr (Nat.le_trans HB1.out.size (HR2.out.lt g hg).1)⟩
        · rw [setCell_block HD2.out.blk 1 _]
          rfl
        · unfold setS
          rw [if_pos HE.out]
          refine SeqW.of_own (own_base (ownsRow_setCell_other HR2.out (own_ne HR2.out HD2.out.blk (fun cur e => by injection e with _ e _; exact absurd e (by decide))) _) ?_)
          exact Nat.le_trans hBw HB1.out.size
        · exact Nat.le_trans (setS_le now n t S) hl
end
end Go.Proofs.Ytdaicdaakegdmaa
