/- The walks of names.Spell, names.plain and their twins in the reference. -/
import Derived.Test.YtkidefmkgcankaaRows
import Derived.Test.YtkidefmkgcankaaBase
import Derived.Outline
import Derived.BigQuiet
import Derived.Deep.RegionLaw
import Derived.Deep.RegionHeld3
import Derived.StillTailTactics
namespace Go.Proofs.Ytkidefmkgcankaa
open Go.RowKit

def plainB (c : Int) : Bool := decide (32 ≤ c) && decide (c ≤ 126) && (c != 34) && (c != 92)
def hexI (n : Int) : Int := if n < 10 then 48 + n else 87 + n
def spell1 (c : Int) : List Int := if plainB c = true then [c] else [92, 120, hexI (c / 16), hexI (c % 16)]
def spellI (l : List Int) : List Int := l.flatMap spell1

theorem spell1_yes {c : Int} (h : plainB c = true) : spell1 c = [c] := by rw [spell1, if_pos h]
theorem spell1_no {c : Int} (h : plainB c = false) : spell1 c = [92, 120, hexI (c / 16), hexI (c % 16)] := by rw [spell1, if_neg (by simp [h])]
theorem spell1_len (c : Int) : (spell1 c).length ≤ 4 := by unfold spell1; split <;> simp
theorem spellI_len (l : List Int) : (spellI l).length ≤ 4 * l.length := by
  induction l with
  | nil => simp [spellI]
  | cons c l ih => simp only [spellI, List.flatMap_cons, List.length_append, List.length_cons] at ih ⊢; have := spell1_len c; omega
theorem spellI_snoc (l : List Int) (c : Int) : spellI (l ++ [c]) = spellI l ++ spell1 c := by simp [spellI]
theorem hexI_byte {n : Int} (h0 : 0 ≤ n) (h1 : n ≤ 15) : IsByte (hexI n) := by unfold hexI IsByte; split <;> omega
theorem spell1_byte {c : Int} (h : IsByte c) : ∀ n ∈ spell1 c, IsByte n := by
  obtain ⟨h0, h1⟩ := h
  have b1 := hexI_byte (n := c / 16) (by omega) (by omega)
  have b2 := hexI_byte (n := c % 16) (by omega) (by omega)
  intro n hn
  unfold spell1 at hn
  split at hn
  · simp at hn; subst hn; exact ⟨h0, h1⟩
  · simp at hn
    rcases hn with rfl | rfl | rfl | rfl
    · exact ⟨by omega, by omega⟩
    · exact ⟨by omega, by omega⟩
    · exact b1
    · exact b2
theorem spellI_byte {l : List Int} (h : ∀ n ∈ l, IsByte n) : ∀ n ∈ spellI l, IsByte n := by
  intro n hn
  simp only [spellI, List.mem_flatMap] at hn
  obtain ⟨c, hc, hn⟩ := hn
  exact spell1_byte (h c hc) n hn

set_option maxHeartbeats 400000 in
theorem plain_any (c : Int) (w : World) (h0 : 0 ≤ c) (h1 : c ≤ 255) :
    Calls Try.prog 25 #[.int .u8 c] w fun e w' => e = .returned (.bool (plainB c)) ∧ w = w' := by
  by_cases a1 : 32 ≤ c
  · by_cases a2 : c ≤ 126
    · go_enter Try.func25, Try.ntmps25
      go_wp2
      all_goals go_ret
      all_goals simp [plainB, *]
    · have : plainB c = false := by simp [plainB, a2]
      rw [this]
      go_enter Try.func25, Try.ntmps25
      go_wp2
      all_goals go_ret
      all_goals simp
  · have : plainB c = false := by simp [plainB, a1]
    rw [this]
    go_enter Try.func25, Try.ntmps25
    go_wp2
    all_goals go_ret
    all_goals simp

set_option maxHeartbeats 400000 in
theorem hex_any (n : Int) (w : World) (h0 : 0 ≤ n) (h1 : n ≤ 15) :
    Calls Try.prog 28 #[.int .u8 n] w fun e w' => e = .returned (.int .u8 (hexI n)) ∧ w = w' := by
  by_cases a1 : n < 10
  · rw [show hexI n = 48 + n from by simp [hexI, a1]]
    go_enter Try.func28, Try.ntmps28
    go_wp2
    all_goals go_ret
    all_goals simp
  · rw [show hexI n = 97 + n - 10 from by simp only [hexI, a1]; simp; omega]
    go_enter Try.func28, Try.ntmps28
    go_wp2
    all_goals go_ret
    all_goals simp

theorem info5 : EI Try.prog 5 (.int .u8 0) 1 1 := by unfold EI; kernel_rfl

def SpPost (s : ByteArray) (w : World) (e : Ending) (w' : World) : Prop := e = .returned (.string (strI (34 :: spellI (bytesI s) ++ [34]))) ∧ Below w.heap.size w w'

structure SpRel (s : ByteArray) (w : World) (k : Nat) (v : Value) (wr : World) : Prop where
  own : wr.ownsRow w.heap.size 5 1 v (34 :: spellI ((bytesI s).take k)).length ((34 :: spellI ((bytesI s).take k)).map (Value.int .u8))
  src : ∀ j (h : j < s.size), wr.cell? ⟨w.heap.size + 1, j, none⟩ = some (.int .u8 (s[j].toNat : Int))
  ne : v.ownBlock ≠ some (w.heap.size + 1)
  size : w.heap.size + 2 ≤ wr.heap.size
  bel : Below w.heap.size w wr

theorem SpRel.step {s : ByteArray} {w wr w1 : World} {k : Nat} {v v1 : Value} {W : World} (h : SpRel s w k v wr) (hk : k < s.size) {n : Nat} {new : List Int} (hn : new = spell1 (s[k].toNat : Int)) (hW : W = wr)
    (hl : n = new.length) (hown : w1.ownsRow w.heap.size 5 1 v1 ((34 :: spellI ((bytesI s).take k)).length + n) ((34 :: spellI ((bytesI s).take k)).map (Value.int .u8) ++ new.map (Value.int .u8)))
    (hg : W.grownBy w1 v.ownBlock) (hsz : W.heap.size < w1.heap.size) (hat : v1.ownBlock = v.ownBlock ∨ ∃ g, v1.ownBlock = some g ∧ W.heap.size < g) : SpRel s w (k + 1) v1 w1 := by
  subst hW
  have htk : (bytesI s).take (k + 1) = (bytesI s).take k ++ [(s[k].toNat : Int)] := by
    rw [List.take_succ_eq_append_getElem (by rw [bytesI_length]; exact hk), bytesI_getElem s k hk]
  have hs := h.size
  refine ⟨?_, fun j hj => ?_, ?_, ?_, ?_⟩
  · rw [htk, spellI_snoc, ← hn]
    have e1 : (34 :: (spellI ((bytesI s).take k) ++ new)).length = (34 :: spellI ((bytesI s).take k)).length + n := by simp only [List.length_cons, List.length_append]; omega
    have e2 : (34 :: (spellI ((bytesI s).take k) ++ new)).map (Value.int .u8) = (34 :: spellI ((bytesI s).take k)).map (Value.int .u8) ++ new.map (Value.int .u8) := by simp
    rw [e1, e2]
    exact hown
  · exact hg.cell (h.src j hj) (Ne.symm h.ne)
  · rcases hat with e | ⟨g, e, hlt⟩
    · rw [e]; exact h.ne
    · rw [e]; intro e'; injection e' with e'; omega
  · omega
  · exact h.bel.grown hg (by omega) (fun g e => (h.own.lt g e).1)

theorem and15 {c : Int} (h0 : 0 ≤ c) (h1 : c ≤ 255) : bits BinOp.and IntKind.u8 c 15 = c % 16 := by
  rw [u8_and c 15 h0 (by omega) (by omega) (by omega)]
  show ((c.toNat &&& 15 : Nat) : Int) = _
  rw [nat_mask4]
  omega

theorem hex_at {W : World} {n : Int} (h0 : 0 ≤ n) (h1 : n ≤ 15) : (Instr.index 9 (.string ⟨#[48, 49, 50, 51, 52, 53, 54, 55, 56, 57, 97, 98, 99, 100, 101, 102]⟩) (.int .u8 n)).run Try.prog W = .ok (.int .u8 (hexI n)) W := by
  have h : ∀ m : Fin 16, (([48, 49, 50, 51, 52, 53, 54, 55, 56, 57, 97, 98, 99, 100, 101, 102] : List UInt8)[m.val]'(m.isLt)).toNat = (hexI (m.val : Int)).toNat := by decide
  have hh := h ⟨n.toNat, by omega⟩
  obtain ⟨hb, _⟩ := hexI_byte h0 h1
  have hn : ((n.toNat : Nat) : Int) = n := by omega
  rw [run_index_string _ _ _ _ _ Try.underlying9, dif_pos ⟨h0, by show n < 16; omega⟩]
  have e : (((⟨#[48, 49, 50, 51, 52, 53, 54, 55, 56, 57, 97, 98, 99, 100, 101, 102]⟩ : ByteArray)[n.toNat]'(by show n.toNat < 16; omega)).toNat : Int) = hexI n := by
    simp only [hn] at hh
    have : ((⟨#[48, 49, 50, 51, 52, 53, 54, 55, 56, 57, 97, 98, 99, 100, 101, 102]⟩ : ByteArray)[n.toNat]'(by show n.toNat < 16; omega)).toNat = (hexI n).toNat := hh
    omega
  rw [e]

theorem SpRel.start (s : ByteArray) (w : World) (cap : Nat) :
    SpRel s w 0 (.slice (some ⟨w.heap.size, 0, none⟩) 1 1) ((w.alloc (.cells #[.int .u8 34] 5)).alloc (.cells (bytesRow s cap) 5 ((bytesRow s cap).size, (bytesRow s cap).size + 1))).drew := by
  refine ⟨?_, fun j hj => ?_, ?_, ?_, ?_⟩
  · have h := World.ownsRow_lit (base := w.heap.size) (e := 5) (size := 1) w #[.int .u8 34] 1 (Nat.le_refl _) (by unfold maxLen; omega) rfl
    have h2 := (h.alloc (.cells (bytesRow s cap) 5 ((bytesRow s cap).size, (bytesRow s cap).size + 1))).drew
    simpa [spellI] using h2
  · have h := World.cell?_alloc_mark (w.alloc (.cells #[.int .u8 34] 5)) (bytesRow s cap) 5 ((bytesRow s cap).size, (bytesRow s cap).size + 1) j
    rw [World.size_alloc] at h
    exact h.trans (bytesRow_at s cap j hj)
  · simp [Value.ownBlock]
  · simp
  · exact (((Below.refl _ _).alloc (Nat.le_refl _) _).alloc (by simp) _).drew

set_option maxHeartbeats 400000 in
theorem spell_any (s : ByteArray) (w : World) (hs : s.size ≤ 1000000) :
    Calls Try.prog 10 #[.string s] w (SpPost s w) := by
  have hconv := fun W : World => run_bytes_of_string (P := Try.prog) W 9 68 5 s Try.underlying9 Try.underlying68 Try.underlying5
  go_enter Try.func10, Try.ntmps10
  go_wp2_with fail
  generalize grownCap (w.alloc (Obj.cells #[Value.int IntKind.u8 34] 5)) s.size 0 5 = cap
  clear hconv
  go_loopw [3, 10] (fun v i wr => ∃ k : Nat, k ≤ s.size ∧ i = .int .i64 k ∧ SpRel s w k v wr) (fun _ i _ => s.size - (intOf i).toNat)
  case atStart => exact ⟨0, Nat.zero_le _, rfl, SpRel.start s w cap⟩
  case round =>
    obtain ⟨k, hk, rfl, hr⟩ := hrel
    have hlen : (34 :: spellI ((bytesI s).take k)).length ≤ 4 * k + 1 := by
      have := spellI_len ((bytesI s).take k)
      simp only [List.length_cons, List.length_take] at this ⊢
      omega
    have hsz := hr.size
    by_cases hlt : k < s.size
    · have hcell := hr.src k hlt
      have hb0 : (0:Int) ≤ (s[k].toNat : Int) := by omega
      have hb1 : (s[k].toNat : Int) ≤ 255 := by have := s[k].toNat_lt; omega
      obtain ⟨c, hc⟩ : ∃ c : Int, c = (s[k].toNat : Int) := ⟨_, rfl⟩
      rw [← hc] at hcell hb0 hb1
      have HC := Lib.hid hc; clear hc
      by_cases hp : plainB c = true
      · go_wp2_with (first | (go_at_call 25; refine (plain_any c _ hb0 hb1).mono ?_; rintro e w' ⟨rfl, rfl⟩) | (at_builtin; refine wpList_app rfl (.tmp 16) (.tmp 18) 68 rfl w.heap.size (.int .u8 0) 1 1 info5 Try.underlying68 rfl (by decide) _ _ _ rfl hr.own 1 1 rfl rfl ?c1 ?c2 ?c3 ?c4 ?_))
        case c1 => intro u hu; simp at hu; subst hu; rfl
        case c2 => unfold maxLen; omega
        case c3 => omega
        case c4 => omega
        intro v' w1 hown hg hsz hat
        have R := hr.step hlt (n := 1) (new := [c]) (by rw [← HC.out, spell1_yes hp]) rfl rfl (by exact hown) hg hsz hat
        clear hr hown hg hsz hat hcell
        go_wp2
        go_roundw
        case rel => exact ⟨k + 1, by omega, by go_num, R⟩
        case measure => simp [intOf]; omega
      · have hp' : plainB c = false := by simpa using hp
        clear hp
        go_wp2_with (first | (go_at_call 25; refine (plain_any c _ hb0 hb1).mono ?_; rintro e w' ⟨rfl, rfl⟩))
        have hW : wr.drew.ownsRow w.heap.size 5 1 u3 (34 :: spellI ((bytesI s).take k)).length ((34 :: spellI ((bytesI s).take k)).map (Value.int .u8)) := hr.own
        have hand : bits BinOp.and IntKind.u8 c 15 = c % 16 := and15 hb0 hb1
        have hi1 := fun W : World => hex_at (W := W) (n := c / 16) (by omega) (by omega)
        have hi2 := fun W : World => hex_at (W := W) (n := c % 16) (by omega) (by omega)
        have G1 : Hid (∀ u ∈ [Value.int .u8 92, .int .u8 120, .int .u8 (hexI (c / 16)), .int .u8 (hexI (c % 16))], u.oneCell' = true) := hide (by intro u hu; simp at hu; rcases hu with rfl | rfl | rfl | rfl <;> rfl)
        have G2 : Hid ((34 :: spellI ((bytesI s).take k)).length + 4 ≤ maxLen) := hide (by unfold maxLen; omega)
        have G3 : Hid (((34 :: spellI ((bytesI s).take k)).length + 4) * 1 ≤ 140737488355328) := hide (by omega)
        have G4 : Hid (w.heap.size ≤ wr.drew.heap.size) := hide (by show w.heap.size ≤ wr.heap.size; omega)
        go_region_law ((refine step_app (W := wr.drew) (news := [.int .u8 92, .int .u8 120, .int .u8 (hexI (c / 16)), .int .u8 (hexI (c % 16))]) rfl (.tmp 20) (.tmp 27) 68 rfl w.heap.size (.int .u8 0) 1 1 info5 Try.underlying68 rfl (by decide) _ _ _ rfl hW 4 4 rfl rfl G1.out G2.out G3.out G4.out ?_; intro v' w1 hown hg hsz hat))
        all_goals
          have hg' : wr.grownBy w1 u3.ownBlock := ⟨hg.os, hg.tape, hg.output, hg.size, hg.block⟩
          have R := hr.step (W := wr) hlt (n := 4) (new := [92, 120, hexI (c / 16), hexI (c % 16)]) (by rw [← HC.out, spell1_no hp']) rfl rfl (by exact hown) hg' hsz hat
          clear hr hown hg hg' hsz hat hcell G1 G2 G3 G4 hi1 hi2 hand hW
          go_wp2
          go_roundw
          case rel => exact ⟨k + 1, by omega, by go_num, R⟩
          case measure => simp [intOf]; omega
    · have : k = s.size := by omega
      subst this
      have H := hr.bel
      go_wp2_with (first | (at_builtin; refine wpList_app rfl (.tmp 30) (.tmp 31) 68 rfl w.heap.size (.int .u8 0) 1 1 info5 Try.underlying68 rfl (by decide) _ _ _ rfl hr.own 1 1 rfl rfl ?d1 ?d2 ?d3 ?d4 ?_))
      case d1 => intro u hu; simp at hu; subst hu; rfl
      case d2 => unfold maxLen; omega
      case d3 => omega
      case d4 => omega
      intro v' w1 hown hg hsz hat
      have e1 : (34 :: spellI ((bytesI s).take s.size)).map (Value.int .u8) ++ [Value.int .u8 34] = (34 :: spellI (bytesI s) ++ [34]).map (Value.int .u8) := by
        rw [List.take_of_length_le (by rw [bytesI_length]; exact Nat.le_refl _)]; simp
      have hown2 : w1.ownsRow w.heap.size 5 1 v' ((spellI ((bytesI s).take s.size)).length + 1 + 1) ((34 :: spellI (bytesI s) ++ [34]).map (Value.int .u8)) := by rw [← e1]; exact hown
      have hcv := conv_own (src := 68) (dst := 9) Try.underlying68 Try.underlying5 Try.underlying9 hown2
      clear hown hown2 e1
      go_wp2
      go_ret
      exact ⟨rfl, hr.bel.grown hg (by omega) (fun g e => (hr.own.lt g e).1)⟩
end Go.Proofs.Ytkidefmkgcankaa
