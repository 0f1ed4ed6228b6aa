/- The walks of container/heap's up and down over a calendar's row. -/
import Derived.Test.YtdaicdaakegdmaaPop
namespace Go.Proofs.Ytdaicdaakegdmaa
open Go.RowKit Go.Maps Go.Shelf
open Go.ChangeMaps Go.WideMaps

theorem meth_len (rv : Value) (w : World) : Sem.run Try.prog (method 242 65 rv "Len") w = .ok (30, rv) w := by kernel_rfl
theorem meth_less (rv : Value) (w : World) : Sem.run Try.prog (method 242 65 rv "Less") w = .ok (86, rv) w := by kernel_rfl
theorem meth_swap (rv : Value) (w : World) : Sem.run Try.prog (method 242 65 rv "Swap") w = .ok (89, rv) w := by kernel_rfl
theorem meth_push (rv : Value) (w : World) : Sem.run Try.prog (method 242 65 rv "Push") w = .ok (88, rv) w := by kernel_rfl
theorem meth_pop (rv : Value) (w : World) : Sem.run Try.prog (method 242 65 rv "Pop") w = .ok (87, rv) w := by kernel_rfl
theorem ent30 : ∀ args w, (callFunc 30 args).run Try.prog w = .ok (.enter 30 args) w := enters_of Try.func30 (by kernel_rfl) rfl
theorem ent86 : ∀ args w, (callFunc 86 args).run Try.prog w = .ok (.enter 86 args) w := enters_of Try.func86 (by kernel_rfl) rfl
theorem ent87 : ∀ args w, (callFunc 87 args).run Try.prog w = .ok (.enter 87 args) w := enters_of Try.func87 (by kernel_rfl) rfl
theorem ent88 : ∀ args w, (callFunc 88 args).run Try.prog w = .ok (.enter 88 args) w := enters_of Try.func88 (by kernel_rfl) rfl
theorem ent89 : ∀ args w, (callFunc 89 args).run Try.prog w = .ok (.enter 89 args) w := enters_of Try.func89 (by kernel_rfl) rfl

theorem less_cal {w : World} {B p r x m : Nat} {v : Value} {now : Int} {l : List Du} (h : Cal w B p r x m v now l) (i j : Nat) (hi : i < l.length) (hj : j < l.length) :
    Calls Try.prog 86 #[.pointer (some ⟨r, 0, none⟩), .int .i64 (i : Int), .int .i64 (j : Int)] w (LessP (ltD (gD l i) (gD l j)) w) := by
  obtain ⟨g, c, rfl, _⟩ := h.row.form (by omega)
  exact less_any (n := 0) l h.rw_ h.row i j hi hj
theorem len_cal {w : World} {B p r x m : Nat} {v : Value} {now : Int} {l : List Du} (h : Cal w B p r x m v now l) : Calls Try.prog 30 #[.pointer (some ⟨r, 0, none⟩)] w (SameP (.int .i64 l.length) w) := by
  obtain ⟨A, c, rfl⟩ := own_shape h.row
  exact rlen_any r l.length c A w h.cells.2.2.2.1

theorem upD_zero (l : List Du) : upD l 0 = l := by rw [upD, dif_pos rfl]
theorem upD_stop {l : List Du} {j : Nat} (hj : j ≠ 0) (h : ltD (gD l j) (gD l ((j - 1) / 2)) = false) : upD l j = l := by rw [upD, dif_neg hj, if_neg (by rw [h]; simp)]
theorem upD_go {l : List Du} {j : Nat} (hj : j ≠ 0) (h : ltD (gD l j) (gD l ((j - 1) / 2)) = true) : upD l j = upD (swD l ((j - 1) / 2) j) ((j - 1) / 2) := by rw [upD, dif_neg hj, if_pos h]
/-- What turns that stay in the row leave. -/
def StayP (B p r x m : Nat) (v : Value) (now : Int) (l' : List Du) (val : Value) (w : World) (e : Ending) (w' : World) : Prop :=
  e = .returned val ∧ Cal w' B p r x m v now l' ∧ Only (Foot p r m v) w w'
theorem only_below {S : Nat → Prop} {w w1 w2 : World} (h : Only S w w1) (hb : Below w1.heap.size w1 w2) : Only S w w2 := h.trans (T := fun _ => False) (Only.of_below hb) (fun _ _ h => h.elim)
set_option maxRecDepth 100000 in
set_option maxHeartbeats 4000000 in
theorem up_any {w : World} {B p r x m : Nat} {v : Value} {now : Int} {l : List Du} (h : Cal w B p r x m v now l) (j : Nat) (hj : j < l.length) :
    Calls Try.prog 44 #[.iface 65 (.pointer (some ⟨r, 0, none⟩)), .int .i64 (j : Int)] w (StayP B p r x m v now (upD l j) (.tuple #[]) w) := by
  have ml := meth_less (.pointer (some ⟨r, 0, none⟩))
  have ms := meth_swap (.pointer (some ⟨r, 0, none⟩))
  have el := ent86
  have es := ent89
  have HD := hide h
  have HL := hide h.len
  clear h
  go_enter Try.func44, Try.ntmps44
  go_wp2_with fail
  go_loopw [1] (fun i wr => ∃ (t : Nat) (l' : List Du), i = .int .i64 t ∧ t < l'.length ∧ Cal wr B p r x m v now l' ∧ Only (Foot p r m v) w wr ∧ upD l' t = upD l j ∧ l'.length = l.length) (fun i _ => (intOf i).toNat)
  case atStart => exact ⟨j, l, rfl, hj, HD.out, Only.refl _ _, rfl, rfl⟩
  case round =>
    obtain ⟨t, l', rfl, ht, hc, ho, hu, hll⟩ := hrel
    have HO := hide ho
    have HU := hide hu
    have HC := hide hc
    have HLL := hide hll
    clear hc ho hu hll
    by_cases h0 : t = 0
    · subst h0
      have hE : Hid (upD l j = l') := hide (by rw [← HU.out, upD_zero])
      go_wp2_with fail
      go_end0
      exact ⟨rfl, by rw [hE.out]; exact HC.out, HO.out⟩
    · obtain ⟨q, hq⟩ : ∃ q, q = (t - 1) / 2 := ⟨_, rfl⟩
      have hw1 : IntKind.i64.wrap ((t : Int) - 1) = (t : Int) - 1 := Go.IntWalk.i64_in _ (by have := HL.out; have := HLL.out; omega)
      have hq1 : Int.tdiv ((t : Int) - 1) 2 = (q : Int) := by rw [hq, Int.tdiv_eq_ediv_of_nonneg (by omega)]; omega
      have hqt : q < t := by omega
      have hwq : IntKind.i64.wrap (q : Int) = (q : Int) := Go.IntWalk.i64_in _ (by have := HL.out; have := HLL.out; omega)
      have hne : ((q : Int) == (t : Int)) = false := by rw [beq_eq_false_iff_ne]; omega
      have HQ := hide hq
      have HLS := hide (less_cal HC.out t q ht (by omega))
      cases hb : ltD (gD l' t) (gD l' q) with
      | false =>
        rw [hb] at HLS
        have hE : Hid (upD l j = l') := hide (by rw [← HU.out, upD_stop h0 (by rw [← HQ.out]; exact hb)])
        clear hq
        go_wp2_with (go_at_fn 86; refine (HLS.out).mono ?_; rintro _ w2 ⟨rfl, hb2⟩; have HC2 := hide (CalF.below HC.out hb2); have HO2 : Hid (Only (Foot p r m v) w w2) := hide (only_below HO.out hb2); clear hb2)
        go_end0
        exact ⟨rfl, by rw [hE.out]; exact HC2.out, HO2.out⟩
      | true =>
        rw [hb] at HLS
        have hE : Hid (upD (swD l' q t) q = upD l j) := hide (by rw [← HU.out, upD_go h0 (by rw [← HQ.out]; exact hb), ← HQ.out])
        clear hq
        go_wp2_with (go_at_fn 86; refine (HLS.out).mono ?_; rintro _ w2 ⟨rfl, hb2⟩; have HC2 := hide (CalF.below HC.out hb2); have HO2 : Hid (Only (Foot p r m v) w w2) := hide (only_below HO.out hb2); clear hb2)
        have HSW := hide (swap_any HC2.out q t (by omega) ht)
        go_wp2_with (go_at_fn 89; refine (HSW.out).mono ?_; rintro _ w3 ⟨rfl, hc3, ho3⟩; have HC3 := hide hc3; have HO3 : Hid (Only (Foot p r m v) w w3) := hide (HO2.out.trans ho3 (fun _ _ h => h)); clear hc3 ho3)
        go_roundw
        case rel => exact ⟨q, swD l' q t, rfl, by rw [swD_length]; omega, HC3.out, HO3.out, hE.out, by rw [swD_length]; exact HLL.out⟩
        case measure => simp [intOf]; omega
end Go.Proofs.Ytdaicdaakegdmaa
