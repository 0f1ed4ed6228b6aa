/- Names, plain: the document's Begins, its Short. -/
import Derived.Test.YtkidefmkgcankaaNmP
namespace Go.Proofs.Ytkidefmkgcankaa
open Go.Op (bytesLess)

/-- One more number, put in by its name. -/
def insD (l : List ByteArray) (out : List Nat) (i : Nat) : List Nat :=
  out.takeWhile (fun j => bytesLess (nmB l j) (nmB l i)) ++ i :: out.dropWhile (fun j => bytesLess (nmB l j) (nmB l i))
/-- The document's Begins behind k names. -/
def begD (l : List ByteArray) (s : List UInt8) : Nat → List Nat
  | 0 => []
  | k + 1 => if Lib.hasPrefix (nmB l k) s = true then insD l (begD l s k) k else begD l s k
theorem insD_perm (l : List ByteArray) (out : List Nat) (i : Nat) : (insD l out i).Perm (out ++ [i]) := by
  unfold insD
  have h1 : (out.takeWhile (fun j => bytesLess (nmB l j) (nmB l i)) ++ i :: out.dropWhile (fun j => bytesLess (nmB l j) (nmB l i))).Perm (i :: (out.takeWhile (fun j => bytesLess (nmB l j) (nmB l i)) ++ out.dropWhile (fun j => bytesLess (nmB l j) (nmB l i)))) := List.perm_middle
  rw [List.takeWhile_append_dropWhile] at h1
  exact h1.trans (List.perm_append_comm (l₁ := [i]) (l₂ := out))
theorem insD_up {l : List ByteArray} {out : List Nat} {i : Nat} (hup : out.Pairwise (fun a b => bytesLess (nmB l a) (nmB l b) = true)) (hne : ∀ j ∈ out, nmB l j ≠ nmB l i) : (insD l out i).Pairwise (fun a b => bytesLess (nmB l a) (nmB l b) = true) := by
  unfold insD
  induction out with
  | nil => simp
  | cons a out ih =>
    have hp := List.pairwise_cons.1 hup
    by_cases ha : bytesLess (nmB l a) (nmB l i) = true
    · rw [List.takeWhile_cons, List.dropWhile_cons, if_pos ha, if_pos ha, List.cons_append, List.pairwise_cons]
      refine ⟨fun b hb => ?_, ih hp.2 (fun j hj => hne j (List.mem_cons_of_mem _ hj))⟩
      have hb2 := ((insD_perm l out i).mem_iff).1 hb
      rcases List.mem_append.1 hb2 with hb2 | hb2
      · exact hp.1 b hb2
      · rw [List.mem_singleton.1 hb2]; exact ha
    · rw [List.takeWhile_cons, List.dropWhile_cons, if_neg ha, if_neg ha, List.nil_append, List.pairwise_cons]
      have hia : bytesLess (nmB l i) (nmB l a) = true := (less_total (hne a List.mem_cons_self)).resolve_left ha
      refine ⟨fun b hb => ?_, hup⟩
      rcases List.mem_cons.1 hb with rfl | hb
      · exact hia
      · exact less_trans hia (hp.1 b hb)
theorem begD_part {l : List ByteArray} (hn : l.Nodup) (s : List UInt8) : ∀ k, k ≤ l.length → (begD l s k).Perm (begP l s k) ∧ (begD l s k).Pairwise (fun a b => bytesLess (nmB l a) (nmB l b) = true)
  | 0, _ => ⟨by simp [begD, begP], List.Pairwise.nil⟩
  | k + 1, hk => by
    have ih := begD_part hn s k (by omega)
    rw [begP_succ]
    unfold begD
    by_cases h : Lib.hasPrefix (nmB l k) s = true
    · rw [if_pos h, if_pos h]
      refine ⟨(insD_perm l _ k).trans (ih.1.append_right [k]), insD_up ih.2 (fun j hj e => ?_)⟩
      have h1 := (begP_lt (ih.1.mem_iff.1 hj)).1
      have := nmB_inj hn (by omega) (by omega) e
      omega
    · rw [if_neg h, if_neg h, List.append_nil]; exact ih
theorem begD_of {l : List ByteArray} (hn : l.Nodup) (s : List UInt8) : BegOf l s (begD l s l.length) := ⟨(begD_part hn s _ (Nat.le_refl _)).1, (begD_part hn s _ (Nat.le_refl _)).2⟩
theorem begD_len (l : List ByteArray) (s : List UInt8) : ∀ k, (begD l s k).length ≤ k
  | 0 => by simp [begD]
  | k + 1 => by
    have ih := begD_len l s k
    unfold begD
    split
    · rw [(insD_perm l _ k).length_eq]; simp; exact ih
    · omega
/-- Fewer bytes than enough: at least two begin so. -/
theorem short_more {l : List ByteArray} {n e k : Nat} (hnl : n < l.length) (h1 : 1 ≤ (nmB l n).length) (he : e = shN l n l.length) (hk1 : 1 ≤ k) (hk : k < e) {t : List Nat} (ht : BegOf l ((nmB l n).take k) t) : 2 ≤ t.length := by
  have hb := shN_le h1 l.length
  rw [← he] at hb
  obtain ⟨m, hm, hne, hN⟩ := shN_reach l.length (by rw [← he]; omega)
  rw [← he] at hN
  have hp : Lib.hasPrefix (nmB l m) ((nmB l n).take k) = true := by
    rw [pre_lcp _ _ _ (by omega)]
    unfold needN at hN; split at hN <;> omega
  have h3 : m ∈ t := ht.perm.mem_iff.2 (mem_begP hm hp)
  have h4 : n ∈ t := ht.perm.mem_iff.2 (mem_begP hnl (pre_self _ _))
  match t, h3, h4 with
  | [a], h3, h4 =>
    simp at h3 h4
    exact absurd (h3.trans h4.symm) hne
  | a :: b :: t, _, _ => simp
/-- Enough, and less than all: one alone begins so. -/
theorem short_is {l : List ByteArray} (hn : l.Nodup) {n e : Nat} (hnl : n < l.length) (h1 : 1 ≤ (nmB l n).length) (he : e = shN l n l.length) (hl : e < (nmB l n).length) {r : List Nat} (hr : BegOf l ((nmB l n).take e) r) : r.length = 1 := by
  have h := short_one hn hnl h1 he hr
  have h0 : 0 < r.length := by
    have := h.1
    rcases Nat.eq_zero_or_pos r.length with h2 | h2
    · rw [List.eq_nil_of_length_eq_zero h2] at this; simp at this
    · exact h2
  by_cases h3 : 1 < r.length
  · have := h.2 h3; omega
  · omega
end Go.Proofs.Ytkidefmkgcankaa
