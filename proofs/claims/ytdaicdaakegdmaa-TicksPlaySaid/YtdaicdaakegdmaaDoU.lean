/- The document's calendar: Upto. -/
import Derived.Test.YtdaicdaakegdmaaDoD
import Derived.Test.YtdaicdaakegdmaaAgP
namespace Go.Proofs.Ytdaicdaakegdmaa
open Go.RowKit Go.Maps Go.Shelf
open Go.ChangeMaps Go.WideMaps

section
variable {w w' : World} {B q : Nat} {now : Int} {v : Value} {S : List Du}
/-- What the document's Upto answers, and leaves. -/
def UptoD (B q : Nat) (v : Value) (t : Int) (S : List Du) (w : World) (e : Ending) (w' : World) : Prop :=
  ∃ vo v', e = .returned (.tuple #[vo, .int .i64 0]) ∧ SeqW B w' vo (S.takeWhile (fun d => decide (d.1 ≤ t))) ∧ DocW w' B q t v' (S.dropWhile (fun d => decide (d.1 ≤ t))) ∧ Only (fun k => k = q) w w' ∧
    (∀ g, vo.ownBlock = some g → v.ownBlock = some g) ∧ (∀ g, v'.ownBlock = some g → v.ownBlock = some g)
theorem take_at {S : List Du} {t : Int} {k : Nat} (hk : k ≤ S.length) (h1 : ∀ j : Nat, j < k → (gD S j).1 ≤ t) (h2 : k = S.length ∨ ¬ (gD S k).1 ≤ t) :
    S.takeWhile (fun d => decide (d.1 ≤ t)) = S.take k ∧ S.dropWhile (fun d => decide (d.1 ≤ t)) = S.drop k := by
  have e : S = S.take k ++ S.drop k := (List.take_append_drop k S).symm
  have := split_at (A := S.take k) (C := S.drop k) (t := t) (fun d hd => by
    obtain ⟨j, hj, rfl⟩ := List.getElem_of_mem hd
    rw [List.length_take] at hj
    have := h1 j (by omega)
    rw [gD_of (by omega)] at this
    simpa using this) (by
    rcases h2 with h2 | h2
    · left; rw [h2]; simp
    · rcases Nat.lt_or_ge k S.length with hlt | hge
      · right
        refine ⟨S[k], S.drop (k + 1), (List.getElem_cons_drop ..).symm, ?_⟩
        rwa [gD_of hlt] at h2
      · left; exact List.drop_eq_nil_of_le hge)
  rwa [← e] at this
theorem SeqW.front {A : Option Addr} {c k : Nat} (h : SeqW B w (.slice A S.length c) S) (hk : k ≤ S.length) : SeqW B w (.slice A k c) (S.take k) := by
  obtain ⟨⟨A', c', e, hnc, hA, hr⟩, ha⟩ := h
  injection e with e1 e2 e3
  subst e1 e3
  have hl : (S.take k).length = k := by simp; omega
  refine ⟨⟨A, c, by rw [hl], by omega, ?_, ?_⟩, ?_⟩
  · rcases hA with ⟨h1, h2, h3⟩ | h1
    · exact .inl ⟨h1, by omega, h3⟩
    · exact .inr h1
  · rw [hl, flatD_take]
    exact hr.front hk
  · intro g hg
    cases A with
    | none => simp [Value.ownBlock] at hg
    | some a => exact ha g hg
theorem SeqW.back {b o c k : Nat} (h : SeqW B w (.slice (some ⟨b, o, none⟩) S.length c) S) (hk : k ≤ S.length) :
    SeqW B w (.slice (if c = k then some ⟨b, o, none⟩ else some ⟨b, o + k * 2, none⟩) (S.length - k) (c - k)) (S.drop k) := by
  obtain ⟨⟨A', c', e, hnc, hA, hr⟩, ha⟩ := h
  injection e with e1 e2 e3
  subst e1 e3
  have hl : (S.drop k).length = S.length - k := by simp
  have hm : (if c = k then some (⟨b, o, none⟩ : Addr) else (some (⟨b, o, none⟩ : Addr)).map (·.add (k * 2))) = if c = k then some ⟨b, o, none⟩ else some ⟨b, o + k * 2, none⟩ := by
    by_cases hk0 : k = 0
    · subst hk0; simp [Addr.add]
    · have hk0' : k * 2 ≠ 0 := by omega
      simp [Addr.add, hk0']
  refine ⟨⟨_, c - k, by rw [hl], by omega, ?_, ?_⟩, ?_⟩
  · right
    split
    · exact ⟨b, o, rfl⟩
    · exact ⟨b, o + k * 2, rfl⟩
  · rw [hl, flatD_drop, ← hm]
    exact hr.cut hk hnc
  · intro g hg
    apply ha g
    split at hg <;> exact hg
set_option maxRecDepth 100000 in
set_option maxHeartbeats 4000000 in
theorem docUpto_bad (h : DocW w B q now v S) (t : Int) (ht : isT t = false ∨ t < now) :
    Calls Try.prog 42 #[.pointer (some ⟨q, 0, none⟩), .int .i64 t] w (SameP (.tuple #[.slice none 0 0, .int .i64 (if isT t = false then 2 else 6)]) w) := by
  have HIS := hide (docIs_any t w)
  obtain ⟨c0, c1⟩ := h.cells
  cases h2 : isT t with
  | false =>
    rw [h2] at HIS
    clear h2 h ht
    go_enter Try.func42, Try.ntmps42
    go_wp2_with (go_at_call 32; refine (HIS.out).mono ?_; rintro e _ ⟨rfl, rfl⟩)
    go_ret2
    exact ⟨rfl, rfl⟩
  | true =>
    have h3 : t < now := by
      rcases ht with ht | ht
      · rw [h2] at ht; cases ht
      · exact ht
    rw [h2] at HIS
    clear h2 h ht
    go_enter Try.func42, Try.ntmps42
    go_wp2_with (go_at_call 32; refine (HIS.out).mono ?_; rintro e _ ⟨rfl, rfl⟩)
    go_ret2
    exact ⟨rfl, rfl⟩
theorem DocW.reNow (h : DocW w B q now v S) (t : Int) : DocW (w.setCell ⟨q, 0, none⟩ (.int .i64 t)) B q t v S :=
  ⟨by rw [setCell_block h.blk 0 _]; rfl, h.row.only (Only.set (S := fun k => k = q) (Only.refl _ _) ⟨q, 0, none⟩ rfl _) (fun g hg e => h.ap g hg e), h.ap, h.base, h.len⟩
set_option maxRecDepth 100000 in
set_option maxHeartbeats 4000000 in
theorem docUpto_any (h : DocW w B q now v S) (t : Int) (ht : isT t = true) (hn : ¬ t < now) : Calls Try.prog 42 #[.pointer (some ⟨q, 0, none⟩), .int .i64 t] w (UptoD B q v t S w) := by
  have HIS := hide (docIs_any t w)
  rw [ht] at HIS
  have f0 := frozen_of_row w q 0 _ _ h.blk
  have HD1 := hide (h.reNow t)
  have HO1 : Hid (Only (fun k => k = q) w (w.setCell ⟨q, 0, none⟩ (.int .i64 t))) := hide (Only.set (S := fun k => k = q) (Only.refl _ _) ⟨q, 0, none⟩ rfl _)
  obtain ⟨c0, c1⟩ := h.cells
  obtain ⟨A, c, rfl, hnc, hA, hrd⟩ := HD1.out.row.rd
  have hat : ∀ k, k < S.length → ∃ g o, A = some ⟨g, o, none⟩ ∧ (w.setCell ⟨q, 0, none⟩ (.int .i64 t)).cell? ⟨g, o + k * 2, none⟩ = some (.int .i64 (gD S k).1) := fun k hk => by
    obtain ⟨g, o, e, hg, hc⟩ := hrd.2 (by omega)
    have := flatD_at S k hk
    exact ⟨g, o, e, hc _ _ this.1⟩
  have HAT := hide hat
  have HL := hide h.len
  have HA := hide hA
  have HNC := hide hnc
  clear h ht hrd hat hA hnc
  go_enter Try.func42, Try.ntmps42
  go_wp2_with (go_at_call 32; refine (HIS.out).mono ?_; rintro e _ ⟨rfl, rfl⟩)
  clear c0 c1 f0
  obtain ⟨c0, c1⟩ := HD1.out.cells
  have f1 := frozen_of_row _ q 1 _ _ HD1.out.blk
  generalize w.setCell ⟨q, 0, none⟩ (.int .i64 t) = w1 at *
  go_loop [6] (fun iv => ∃ k : Nat, k ≤ S.length ∧ iv = .int .i64 k ∧ ∀ j : Nat, j < k → (gD S j).1 ≤ t) (fun iv => S.length - (intOf iv).toNat)
  case atStart => exact ⟨0, Nat.zero_le _, rfl, fun j hj => absurd hj (by omega)⟩
  case round =>
    obtain ⟨k, hk, rfl, hno⟩ := hrel
    have HN := hide hno
    clear hno
    by_cases hgo : k < S.length ∧ (gD S k).1 ≤ t
    · obtain ⟨hlt, hle⟩ := hgo
      obtain ⟨g, o, rfl, d0⟩ := HAT.out k hlt
      have HXN2 : Hid (∀ j : Nat, j < k + 1 → (gD S j).1 ≤ t) := hide (fun j hj => by
        rcases Nat.lt_or_ge j k with h1 | h1
        · exact HN.out j h1
        · obtain rfl : j = k := by omega
          exact hle)
      have HLT := hide hlt
      have hki : (k : Int) < (S.length : Int) := by omega
      have hk2 : (k : Int) ≤ 1000000 := by have := HL.out; omega
      go_wp2_with fail
      go_roundw
      case rel => exact ⟨k + 1, HLT.out, by go_num, HXN2.out⟩
      case measure => have := HLT.out; simp [intOf]; omega
    · have HTW := hide (take_at hk HN.out (by omega))
      rcases HA.out with ⟨rfl, hl0, rfl⟩ | ⟨b, o, rfl⟩
      · obtain rfl := List.eq_nil_of_length_eq_zero hl0
        obtain rfl : k = 0 := by simpa using hk
        have HF : Hid (SeqW B (w1.setCell ⟨q, 1, none⟩ (.slice none 0 0)) (.slice none 0 0) [] ∧ DocW (w1.setCell ⟨q, 1, none⟩ (.slice none 0 0)) B q t (.slice none 0 0) [] ∧ Only (fun k => k = q) w (w1.setCell ⟨q, 1, none⟩ (.slice none 0 0))) := hide (by
          have ho : Only (fun k => k = q) w1 (w1.setCell ⟨q, 1, none⟩ (.slice none 0 0)) := Only.set (S := fun k => k = q) (Only.refl _ _) ⟨q, 1, none⟩ rfl _
          refine ⟨SeqW.of_own (World.ownsRow_nil _ _ _ _), ⟨?_, SeqW.of_own (World.ownsRow_nil _ _ _ _), fun g hg => by simp [Value.ownBlock] at hg, HD1.out.base, by simp⟩, HO1.out.trans ho (fun _ _ h => h)⟩
          rw [setCell_block HD1.out.blk 1 _]
          rfl)
        clear hgo HTW
        go_wp2_with fail
        go_ret2
        exact ⟨_, _, rfl, HF.out.1, HF.out.2.1, HF.out.2.2, fun g hg => hg, fun g hg => hg⟩
      obtain ⟨Af, hAf⟩ : ∃ Af, (if c = k then some (⟨b, o, none⟩ : Addr) else some ⟨b, o + k * 2, none⟩) = Af := ⟨_, rfl⟩
      have hown : ∀ g, (Value.slice Af (S.length - k) (c - k)).ownBlock = some g → g = b := fun g hg => by
        rw [← hAf] at hg
        split at hg <;> · injection hg with hg; exact hg.symm
      have HF : Hid (SeqW B (w1.setCell ⟨q, 1, none⟩ (.slice Af (S.length - k) (c - k))) (.slice (some ⟨b, o, none⟩) k c) (S.takeWhile (fun d => decide (d.1 ≤ t))) ∧ DocW (w1.setCell ⟨q, 1, none⟩ (.slice Af (S.length - k) (c - k))) B q t (.slice Af (S.length - k) (c - k)) (S.dropWhile (fun d => decide (d.1 ≤ t))) ∧ Only (fun k => k = q) w (w1.setCell ⟨q, 1, none⟩ (.slice Af (S.length - k) (c - k))) ∧
          (∀ g, (Value.slice (some ⟨b, o, none⟩) k c).ownBlock = some g → (Value.slice (some ⟨b, o, none⟩) S.length c).ownBlock = some g) ∧ (∀ g, (Value.slice Af (S.length - k) (c - k)).ownBlock = some g → (Value.slice (some ⟨b, o, none⟩) S.length c).ownBlock = some g)) := hide (by
        rw [HTW.out.1, HTW.out.2]
        have ho : Only (fun k => k = q) w1 (w1.setCell ⟨q, 1, none⟩ (.slice Af (S.length - k) (c - k))) := Only.set (S := fun k => k = q) (Only.refl _ _) ⟨q, 1, none⟩ rfl _
        have hbq : b ≠ q := HD1.out.ap b rfl
        refine ⟨(HD1.out.row.front hk).only ho (fun g hg e => ?_), ⟨?_, ?_, fun g hg e => ?_, HD1.out.base, ?_⟩, HO1.out.trans ho (fun _ _ h => h), fun g hg => hg, fun g hg => by rw [hown g hg]; rfl⟩
        · injection hg with hg
          exact hbq (hg.trans e)
        · rw [setCell_block HD1.out.blk 1 _]
          rfl
        · have := HD1.out.row.back hk
          rw [hAf] at this
          exact this.only ho (fun g hg e => hbq ((hown g hg).symm.trans e))
        · exact hbq ((hown g hg).symm.trans e)
        · have := HD1.out.len
          simp; omega)
      clear hown
      have hkc : k ≤ c := Nat.le_trans hk HNC.out
      have hk2 : (k : Int) ≤ 1000000 := by have := HL.out; omega
      by_cases hlt : k < S.length
      · have hle : ¬ (gD S k).1 ≤ t := fun h => hgo ⟨hlt, h⟩
        obtain ⟨g, o', e, d0⟩ := HAT.out k hlt
        injection e with e
        injection e with e1 e2 _
        subst e1 e2
        have hki : (k : Int) < (S.length : Int) := by omega
        clear hgo
        go_wp2_with fail
        go_ret2
        exact ⟨_, _, rfl, HF.out.1, HF.out.2.1, HF.out.2.2.1, HF.out.2.2.2.1, HF.out.2.2.2.2⟩
      · have hki : ¬ (k : Int) < (S.length : Int) := by omega
        clear hgo
        go_wp2_with fail
        go_ret2
        exact ⟨_, _, rfl, HF.out.1, HF.out.2.1, HF.out.2.2.1, HF.out.2.2.2.1, HF.out.2.2.2.2⟩
end
end Go.Proofs.Ytdaicdaakegdmaa
