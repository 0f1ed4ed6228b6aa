/- The document's calendar: New, At, Drop. -/
import Derived.Test.YtdaicdaakegdmaaDoS
namespace Go.Proofs.Ytdaicdaakegdmaa
open Go.RowKit Go.Maps Go.Shelf
open Go.ChangeMaps Go.WideMaps

def NewD (now : Int) (w : World) (e : Ending) (w' : World) : Prop :=
  (isT now = false ∧ e = .returned (.tuple #[.pointer none, .int .i64 2]) ∧ w = w') ∨
  (isT now = true ∧ ∃ q v, e = .returned (.tuple #[.pointer (some ⟨q, 0, none⟩), .int .i64 0]) ∧ DocW w' w.heap.size q now v [] ∧ Below w.heap.size w w')
set_option maxHeartbeats 1000000 in
theorem docNew_any (now : Int) (w : World) : Calls Try.prog 17 #[.int .i64 now] w (NewD now w) := by
  have HIS := hide (docIs_any now w)
  cases h : isT now with
  | false =>
    have HF := hide h
    rw [h] at HIS
    clear h
    go_enter Try.func17, Try.ntmps17
    go_wp2_with (go_at_call 32; refine (HIS.out).mono ?_; rintro e _ ⟨rfl, rfl⟩)
    go_ret2
    exact .inl ⟨HF.out, rfl, rfl⟩
  | true =>
    have HF := hide h
    rw [h] at HIS
    clear h
    go_enter Try.func17, Try.ntmps17
    go_wp2_with (go_at_call 32; refine (HIS.out).mono ?_; rintro e _ ⟨rfl, rfl⟩)
    go_ret2
    exact .inr ⟨HF.out, w.heap.size, .slice none 0 0, rfl, ⟨heap_alloc_new w _, SeqW.of_own (World.ownsRow_nil _ _ _ _), fun g hg => by simp [Value.ownBlock] at hg, Nat.le_refl _, by simp⟩, (Below.refl _ _).alloc (Nat.le_refl _) _⟩

section
variable {w w' : World} {B q : Nat} {now : Int} {v : Value} {S : List Du}
theorem find_step {S : List Du} {n : Int} {k : Nat} (hk : k < S.length) (h : ∀ j : Nat, j < k → (gD S j).2 ≠ n) : atS S n = if (gD S k).2 = n then some (gD S k).1 else atS (S.drop (k + 1)) n := by
  unfold atS
  have e : S = S.take k ++ (gD S k :: S.drop (k + 1)) := by
    rw [gD_of hk, List.getElem_cons_drop, List.take_append_drop]
  have hn : (S.take k).find? (fun x => decide (x.2 = n)) = none := by
    rw [List.find?_eq_none]
    intro x hx
    obtain ⟨j, hj, rfl⟩ := List.getElem_of_mem hx
    rw [List.length_take] at hj
    have := h j (by omega)
    rw [gD_of (by omega)] at this
    simpa using this
  conv => lhs; rw [e, List.find?_append, hn, Option.none_or, List.find?_cons]
  by_cases hd : (gD S k).2 = n
  · simp [hd]
  · simp [hd]
theorem find_end {S : List Du} {n : Int} (h : ∀ j : Nat, j < S.length → (gD S j).2 ≠ n) : atS S n = none := by
  unfold atS
  rw [Option.map_eq_none_iff, List.find?_eq_none]
  intro x hx
  obtain ⟨j, hj, rfl⟩ := List.getElem_of_mem hx
  have := h j hj
  rw [gD_of hj] at this
  simpa using this
set_option maxRecDepth 100000 in
set_option maxHeartbeats 4000000 in
theorem docAt_any (h : DocW w B q now v S) (n : Int) : Calls Try.prog 41 #[.pointer (some ⟨q, 0, none⟩), .int .i64 n] w (SameP (atV S n) w) := by
  obtain ⟨A, c, rfl, hnc, hA, hrd⟩ := h.row.rd
  have hat : ∀ k, k < S.length → ∃ g o, A = some ⟨g, o, none⟩ ∧ w.cell? ⟨g, o + k * 2, none⟩ = some (.int .i64 (gD S k).1) ∧ w.cell? ⟨g, o + k * 2 + 1, none⟩ = some (.int .i64 (gD S k).2) := fun k hk => by
    obtain ⟨g, o, e, hg, hc⟩ := hrd.2 (by omega)
    have := flatD_at S k hk
    exact ⟨g, o, e, hc _ _ this.1, hc _ _ this.2⟩
  have HAT := hide hat
  have HL := hide h.len
  obtain ⟨c0, c1⟩ := h.cells
  clear h hrd hat hA hnc
  go_enter Try.func41, Try.ntmps41
  go_wp2_with fail
  go_loop [6] (fun iv => ∃ k : Nat, k ≤ S.length ∧ iv = .int .i64 k ∧ ∀ j : Nat, j < k → (gD S j).2 ≠ n) (fun iv => S.length - (intOf iv).toNat)
  case atStart => exact ⟨0, Nat.zero_le _, rfl, fun j hj => absurd hj (by omega)⟩
  case round =>
    obtain ⟨k, hk, rfl, hno⟩ := hrel
    have HN := hide hno
    clear hno
    by_cases hlt : k < S.length
    · obtain ⟨g, o, rfl, d0, d1⟩ := HAT.out k hlt
      have HF := hide (find_step hlt HN.out)
      have HXN : Hid ((gD S k).2 ≠ n → ∀ j : Nat, j < k + 1 → (gD S j).2 ≠ n) := hide (fun h j hj => by
        rcases Nat.lt_or_ge j k with h1 | h1
        · exact HN.out j h1
        · obtain rfl : j = k := by omega
          exact h)
      have HLT := hide hlt
      have hki : (k : Int) < (S.length : Int) := by omega
      have hk2 : (k : Int) ≤ 1000000 := by have := HL.out; omega
      by_cases he : (gD S k).2 = n
      · have HV : Hid (atV S n = .tuple #[.int .i64 (gD S k).1, .int .i64 0]) := hide (by unfold atV; rw [HF.out, if_pos he])
        rw [he] at d1
        clear he
        go_wp2_with fail
        go_ret2
        exact ⟨by rw [HV.out]; rfl, rfl⟩
      · have he' : ((gD S k).2 == n) = false := by rw [beq_eq_false_iff_ne]; exact he
        have HXN2 := hide (HXN.out he)
        clear he
        go_wp2_with fail
        go_roundw
        case rel => exact ⟨k + 1, HLT.out, by go_num, HXN2.out⟩
        case measure => have := HLT.out; simp [intOf]; omega
    · obtain rfl : k = S.length := by omega
      have HV : Hid (atV S n = .tuple #[.int .i64 0, .int .i64 4]) := hide (by unfold atV; rw [find_end HN.out])
      go_wp2_with fail
      go_ret2
      exact ⟨by rw [HV.out]; rfl, rfl⟩
end
end Go.Proofs.Ytdaicdaakegdmaa
