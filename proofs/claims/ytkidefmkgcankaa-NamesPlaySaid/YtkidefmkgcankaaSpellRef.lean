/- The walk of the reference's Spell. -/
import Derived.Test.YtkidefmkgcankaaSpell
namespace Go.Proofs.Ytkidefmkgcankaa
open Go.RowKit

structure SrRel (s : ByteArray) (w : World) (k : Nat) (v : Value) (wr : World) : Prop where
  own : wr.ownsRow w.heap.size 5 1 v (34 :: spellI ((bytesI s).take k)).length ((34 :: spellI ((bytesI s).take k)).map (Value.int .u8))
  bel : Below w.heap.size w wr

theorem SrRel.step {s : ByteArray} {w wr w1 : World} {k : Nat} {v v1 : Value} (h : SrRel s w k v wr) (hk : k < s.size) {n : Nat} {new : List Int} (hn : new = spell1 (s[k].toNat : Int))
    (hl : n = new.length) (hown : w1.ownsRow w.heap.size 5 1 v1 ((34 :: spellI ((bytesI s).take k)).length + n) ((34 :: spellI ((bytesI s).take k)).map (Value.int .u8) ++ new.map (Value.int .u8)))
    (hg : wr.grownBy w1 v.ownBlock) : SrRel s w (k + 1) v1 w1 := by
  have htk : (bytesI s).take (k + 1) = (bytesI s).take k ++ [(s[k].toNat : Int)] := by
    rw [List.take_succ_eq_append_getElem (by rw [bytesI_length]; exact hk), bytesI_getElem s k hk]
  refine ⟨?_, h.bel.grown hg h.bel.size (fun g e => (h.own.lt g e).1)⟩
  rw [htk, spellI_snoc, ← hn]
  have e1 : (34 :: (spellI ((bytesI s).take k) ++ new)).length = (34 :: spellI ((bytesI s).take k)).length + n := by simp only [List.length_cons, List.length_append]; omega
  have e2 : (34 :: (spellI ((bytesI s).take k) ++ new)).map (Value.int .u8) = (34 :: spellI ((bytesI s).take k)).map (Value.int .u8) ++ new.map (Value.int .u8) := by simp
  rw [e1, e2]
  exact hown

theorem SrRel.start (s : ByteArray) (w : World) : SrRel s w 0 (.slice (some ⟨w.heap.size, 0, none⟩) 1 1) (w.alloc (.cells #[.int .u8 34] 5)) := by
  refine ⟨?_, (Below.refl _ _).alloc (Nat.le_refl _) _⟩
  have h := World.ownsRow_lit (base := w.heap.size) (e := 5) (size := 1) w #[.int .u8 34] 1 (Nat.le_refl _) (by unfold maxLen; omega) rfl
  simpa [spellI] using h

theorem plainB_parts {c : Int} (h : plainB c = true) : 32 ≤ c ∧ c ≤ 126 ∧ (c != 34) = true ∧ (c != 92) = true := by
  simp only [plainB, Bool.and_eq_true, decide_eq_true_eq] at h
  exact ⟨h.1.1.1, h.1.1.2, h.1.2, h.2⟩
theorem plainB_not {c : Int} (h : plainB c = false) (h1 : 32 ≤ c) (h2 : c ≤ 126) (h3 : c ≠ 34) : c = 92 := by
  simp only [plainB, decide_eq_true h1, decide_eq_true h2, Bool.true_and] at h
  simpa [h3] using h

theorem plainB_ways {c : Int} (h : plainB c = false) : c < 32 ∨ 126 < c ∨ (32 ≤ c ∧ c ≤ 126 ∧ (c != 34) = false) ∨ (32 ≤ c ∧ c ≤ 126 ∧ (c != 34) = true ∧ (c != 92) = false) := by
  rcases Int.lt_or_le c 32 with h1 | h1
  · exact .inl h1
  rcases Int.lt_or_le 126 c with h2 | h2
  · exact .inr (.inl h2)
  by_cases h3 : c = 34
  · exact .inr (.inr (.inl ⟨h1, h2, by simp [h3]⟩))
  · exact .inr (.inr (.inr ⟨h1, h2, by simp [h3], by simp [plainB_not h h1 h2 h3]⟩))

set_option maxHeartbeats 1000000 in
theorem refspell_any (s : ByteArray) (w : World) (hs : s.size ≤ 1000000) :
    Calls Try.prog 11 #[.string s] w (SpPost s w) := by
  go_enter Try.func11, Try.ntmps11
  go_wp2_with fail
  go_loopw [3, 4] (fun v i wr => ∃ k : Nat, k ≤ s.size ∧ i = .int .i64 k ∧ SrRel s w k v wr) (fun _ i _ => s.size - (intOf i).toNat)
  case atStart => exact ⟨0, Nat.zero_le _, rfl, SrRel.start s w⟩
  case round =>
    obtain ⟨k, hk, rfl, hr⟩ := hrel
    have hlen : (34 :: spellI ((bytesI s).take k)).length ≤ 4 * k + 1 := by
      have := spellI_len ((bytesI s).take k)
      simp only [List.length_cons, List.length_take] at this ⊢
      omega
    have hsz := hr.bel.size
    by_cases hlt : k < s.size
    · have hb0 : (0:Int) ≤ (s[k].toNat : Int) := by omega
      have hb1 : (s[k].toNat : Int) ≤ 255 := by have := s[k].toNat_lt; omega
      have hix : ∀ W : World, (Instr.index 9 (.string s) (.int .i64 (k : Int))).run Try.prog W = .ok (.int .u8 (s[k].toNat : Int)) W := fun W => by
        rw [run_index_string _ _ _ _ _ Try.underlying9, dif_pos ⟨by omega, by omega⟩]
        rfl
      obtain ⟨c, hc⟩ : ∃ c : Int, c = (s[k].toNat : Int) := ⟨_, rfl⟩
      rw [← hc] at hb0 hb1
      simp only [← hc] at hix
      have HC := Lib.hid hc; clear hc
      by_cases hp : plainB c = true
      · obtain ⟨p1, p2, p3, p4⟩ := plainB_parts hp
        have HP := Lib.hid hp; clear hp
        go_wp2_with (first | (at_builtin; refine wpList_app rfl (.tmp 30) (.tmp 32) 68 rfl w.heap.size (.int .u8 0) 1 1 info5 Try.underlying68 rfl (by decide) _ _ _ rfl hr.own 1 1 rfl rfl ?c1 ?c2 ?c3 ?c4 ?_))
        case c1 => intro u hu; simp at hu; subst hu; rfl
        case c2 => unfold maxLen; omega
        case c3 => omega
        case c4 => omega
        intro v' w1 hown hg hsz hat
        have R := hr.step hlt (n := 1) (new := [c]) (by rw [← HC.out, spell1_yes HP.out]) rfl (by exact hown) hg
        clear hr hown hg hsz hat hix
        go_wp2
        go_roundw
        case rel => exact ⟨k + 1, by omega, by go_num, R⟩
        case measure => simp [intOf]; omega
      · have hp' : plainB c = false := by simpa using hp
        clear hp
        have HP := Lib.hid hp'
        have tok : True := trivial
        clear hp'
        rcases plainB_ways HP.out with hcase | hcase | ⟨ha, hb, hcase⟩ | ⟨ha, hb, hcase, hcase2⟩
        all_goals
          have G1 : Hid (∀ u ∈ [Value.int .u8 92, .int .u8 120, .int .u8 (hexI (c / 16)), .int .u8 (hexI (c % 16))], u.oneCell' = true) := hide (by intro u hu; simp at hu; rcases hu with rfl | rfl | rfl | rfl <;> rfl)
          have G2 : Hid ((34 :: spellI ((bytesI s).take k)).length + 4 ≤ maxLen) := hide (by unfold maxLen; omega)
          have G3 : Hid (((34 :: spellI ((bytesI s).take k)).length + 4) * 1 ≤ 140737488355328) := hide (by omega)
          go_wp2_with (first | (go_at_call 28; have _t := tok; refine (hex_any (c / 16) _ (by omega) (by omega)).mono ?_; rintro e w' ⟨rfl, rfl⟩; clear tok) | (go_at_call 28; refine (hex_any (c % 16) _ (by omega) (by omega)).mono ?_; rintro e w' ⟨rfl, rfl⟩) | (at_builtin; refine wpList_app rfl (.tmp 34) (.tmp 41) 68 rfl w.heap.size (.int .u8 0) 1 1 info5 Try.underlying68 rfl (by decide) _ _ _ rfl hr.own 4 4 rfl rfl G1.out G2.out G3.out hsz ?_; intro v' w1 hown hg _ _; have R := hr.step hlt (n := 4) (new := [92, 120, hexI (c / 16), hexI (c % 16)]) (by rw [← HC.out, spell1_no HP.out]) rfl (by exact hown) hg; clear hr hown hg hsz hix G1 G2 G3))
          go_roundw
          case rel => exact ⟨k + 1, by omega, by go_num, R⟩
          case measure => simp [intOf]; omega
    · have : k = s.size := by omega
      subst this
      have H := hr.bel
      go_wp2_with (first | (at_builtin; refine wpList_app rfl (.tmp 43) (.tmp 44) 68 rfl w.heap.size (.int .u8 0) 1 1 info5 Try.underlying68 rfl (by decide) _ _ _ rfl hr.own 1 1 rfl rfl ?d1 ?d2 ?d3 ?d4 ?_))
      case d1 => intro u hu; simp at hu; subst hu; rfl
      case d2 => unfold maxLen; omega
      case d3 => omega
      case d4 => omega
      intro v' w1 hown hg hsz hat
      have e1 : (34 :: spellI ((bytesI s).take s.size)).map (Value.int .u8) ++ [Value.int .u8 34] = (34 :: spellI (bytesI s) ++ [34]).map (Value.int .u8) := by
        rw [List.take_of_length_le (by rw [bytesI_length]; exact Nat.le_refl _)]; simp
      have hown2 : w1.ownsRow w.heap.size 5 1 v' ((spellI ((bytesI s).take s.size)).length + 1 + 1) ((34 :: spellI (bytesI s) ++ [34]).map (Value.int .u8)) := by rw [← e1]; exact hown
      have hcv := conv_own (src := 68) (dst := 9) Try.underlying68 Try.underlying5 Try.underlying9 hown2
      clear hown hown2 e1
      go_wp2
      go_ret
      exact ⟨rfl, hr.bel.grown hg (by omega) (fun g e => (hr.own.lt g e).1)⟩
end Go.Proofs.Ytkidefmkgcankaa
