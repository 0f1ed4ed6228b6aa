/- Spoiling all buyers of an instance, row by row: what stays; offers.With, offers.Without and the reference's With in one form each. -/
import Derived.Test.YtkiebjgpghajbaaDoorSpoilt
import Derived.Test.YtkiebjgpghajbaaDoorWithF
import Derived.Test.YtkiebjgpghajbaaDoorRefWithL
namespace Go.Proofs.YtkiebjgpghajbaaDoor
open Go.RowKit Go.Maps
open Go.ChangeMaps Go.WideMaps

/-- No block but those from lo on below hi, and new ones, has turned. -/
structure Outside (lo hi : Nat) (w w' : World) : Prop where
  os : w'.os = w.os
  tape : w'.tape = w.tape
  output : w'.output = w.output
  size : w.heap.size ≤ w'.heap.size
  block : ∀ k, k < w.heap.size → (k < lo ∨ hi ≤ k) → w'.heap[k]? = w.heap[k]?
section
variable {lo hi : Nat} {w w' w'' : World}
theorem Outside.refl (lo hi : Nat) (w : World) : Outside lo hi w w := ⟨rfl, rfl, rfl, Nat.le_refl _, fun _ _ _ => rfl⟩
theorem Outside.below (h : Outside lo hi w w') {B : Nat} (hB : B ≤ lo) (hl : lo ≤ w.heap.size) : Below B w w' := ⟨h.os, h.tape, h.output, h.size, fun k hk => h.block k (by omega) (.inl (by omega))⟩
theorem Outside.grown (h : Outside lo hi w w') {row : Option Nat} (hg : w'.grownBy w'' row) (hr : ∀ j, row = some j → lo ≤ j ∧ j < hi) : Outside lo hi w w'' :=
  ⟨hg.os.trans h.os, hg.tape.trans h.tape, hg.output.trans h.output, Nat.le_trans h.size hg.size, fun k hk hne => (hg.block k (Nat.lt_of_lt_of_le hk h.size) (fun e => by have := hr k e.symm; omega)).trans (h.block k hk hne)⟩
theorem Outside.set (h : Outside lo hi w w') {g i : Nat} (hg : lo ≤ g ∧ g < hi) (v : Value) : Outside lo hi w (w'.setCell ⟨g, i, none⟩ v) :=
  ⟨h.os, h.tape, h.output, by simpa [World.setCell] using h.size, fun k hk hne => (Below.heap_setCell w' ⟨g, i, none⟩ v k (by simp only; omega)).trans (h.block k hk hne)⟩
theorem Outside.own (h : Outside lo hi w w') {B e size n : Nat} {v : Value} {xs : List Value} (ho : w.ownsRow B e size v n xs) (hv : ∀ k, v.ownBlock = some k → k < lo ∨ hi ≤ k) : w'.ownsRow B e size v n xs := by
  obtain ⟨h1, h2⟩ := ho
  refine ⟨h1, ?_⟩
  rcases h2 with h2 | ⟨g, cap, cur, rfl, hg, hh, r⟩
  · exact .inl h2
  · exact .inr ⟨g, cap, cur, rfl, hg, (h.block g (lt_of_block hh) (hv g rfl)).trans hh, r⟩
theorem OwnB.out {base c : Nat} {A : Option Addr} {hs : List Hdr} {ls : List (List Offer)} (ho : OwnB w base A c hs ls) (h : Outside lo hi w w') (hB : hi ≤ base) : OwnB w' base A c hs ls :=
  ⟨ho.len, h.own ho.hdr (fun k e => .inr (Nat.le_trans hB (ho.hdr.lt k e).1)), fun i a l ha hl => h.own (ho.row i a l ha hl) (fun k e => .inr (Nat.le_trans hB ((ho.row i a l ha hl).lt k e).1)), ho.nil⟩
end

/-- In the middle of the spoiling: the buyers from k on are as they were. -/
structure SpB (lo hi : Nat) (w0 : World) (A : Option Addr) (c : Nat) (hs : List Hdr) (ls : List (List Offer)) (k : Nat) (wr : World) : Prop where
  out : Outside lo hi w0 wr
  hdr : ∃ xs, wr.ownsRow lo 22 1 (.slice A ls.length c) ls.length xs ∧ ∀ (j : Nat) (h : Hdr) (l : List Offer), k ≤ j → hs[j]? = some h → ls[j]? = some l → xs[j]? = some (hdrV h l)
  row : ∀ (j : Nat) (h : Hdr) (l : List Offer), k ≤ j → hs[j]? = some h → ls[j]? = some l → wr.ownsRow lo 67 2 (hdrV h l) l.length (cells2 offV l)
/-- All rows lie below hi. -/
structure InB (hi : Nat) (A : Option Addr) (hs : List Hdr) : Prop where
  a : ∀ p, A = some p → p.block < hi
  h : ∀ (j : Nat) (x : Hdr) (p : Addr), hs[j]? = some x → x.1 = some p → p.block < hi
section
variable {lo hi c k : Nat} {w w0 wr wq : World} {A : Option Addr} {hs : List Hdr} {ls : List (List Offer)}
theorem OwnB.inB (ho : OwnB w lo A c hs ls) : InB w.heap.size A hs :=
  ⟨fun p e => by subst e; exact (ho.hdr.lt p.block rfl).2, fun j x p hx hp => (own_lt ho hx hp).2⟩
theorem SpB.start (ho : OwnB w0 lo A c hs ls) : SpB lo hi w0 A c hs ls 0 w0 :=
  ⟨Outside.refl _ _ _, ⟨_, ho.hdr, fun j h l _ hh hl => by rw [List.getElem?_zipWith, hh, hl]⟩, fun j h l _ hh hl => ho.row j h l hh hl⟩
theorem hdrV_block {h : Hdr} {l : List Offer} {j : Nat} (e : (hdrV h l).ownBlock = some j) : ∃ p, h.1 = some p ∧ p.block = j := by
  obtain ⟨a, c⟩ := h
  cases a with
  | none => simp [hdrV, Value.ownBlock] at e
  | some p => exact ⟨p, rfl, by simpa [hdrV, Value.ownBlock] using e⟩
/-- One buyer more is spoilt and dropped. -/
theorem SpB.step {g : Nat} {h : Hdr} {l : List Offer} (s : SpB lo hi w0 (some ⟨g, 0, none⟩) c hs ls k wr) (hin : InB hi (some ⟨g, 0, none⟩) hs) (hf : Far hs) (hh : hs[k]? = some h) (hl : ls[k]? = some l) (hg : wr.grownBy wq (hdrV h l).ownBlock) :
    (∃ u, wq.cell? ⟨g, k, none⟩ = some u) ∧ wq.frozen? ⟨g, k, none⟩ = false ∧ Outside lo hi w0 wq ∧ SpB lo hi w0 (some ⟨g, 0, none⟩) c hs ls (k + 1) (wq.setCell ⟨g, k, none⟩ (.slice none 0 0)) := by
  obtain ⟨xs, hx, hxs⟩ := s.hdr
  have hkl : k < ls.length := (List.getElem?_eq_some_iff.1 hl).1
  have hrow := s.row k h l (Nat.le_refl _) hh hl
  have hxl : xs.length = ls.length := by have := hx.1; omega
  obtain ⟨cur, hcur⟩ : ∃ cur, wr.heap[g]? = some (.cells cur 22 (0, 0)) := by
    rcases hx.2 with ⟨e1, _⟩ | ⟨g', cap', cur, e1, _, hh', _⟩
    · cases e1
    · injection e1 with e1
      injection e1 with e1
      injection e1 with e1
      subst e1
      exact ⟨cur, hh'⟩
  have hne : (hdrV h l).ownBlock ≠ some g := own_ne hrow hcur (by simp)
  have hx' : wq.ownsRow lo 22 1 (.slice (some ⟨g, 0, none⟩) ls.length c) ls.length xs := own_far hx hg (.inl (fun e => hne e.symm))
  have hcurq : wq.heap[g]? = some (.cells cur 22 (0, 0)) := (hg.block g (lt_of_block hcur) (fun e => hne e.symm)).trans hcur
  have hin' : ∀ j, (hdrV h l).ownBlock = some j → lo ≤ j ∧ j < hi := fun j e => by
    obtain ⟨p, hp, rfl⟩ := hdrV_block e
    exact ⟨(hrow.lt _ e).1, hin.h k h p hh hp⟩
  have hout := s.out.grown hg hin'
  have hgl : lo ≤ g ∧ g < hi := ⟨(hx.lt g rfl).1, hin.a ⟨g, 0, none⟩ rfl⟩
  refine ⟨?_, hx'.frozenAt k, hout, hout.set hgl _, ⟨_, (hx'.stored k (.slice none 0 0)).1, fun j h' l' hj hh' hl' => ?_⟩, fun j h' l' hj hh' hl' => ?_⟩
  · have := hx'.cellAt k (by omega)
    rw [List.getElem?_eq_getElem (by omega)] at this
    exact ⟨_, this⟩
  · rw [List.getElem?_set_ne (by omega)]
    exact hxs j h' l' (by omega) hh' hl'
  · have h1 := s.row j h' l' (by omega) hh' hl'
    have h2 : wq.ownsRow lo 67 2 (hdrV h' l') l'.length (cells2 offV l') := by
      refine own_far h1 hg ?_
      cases hb : (hdrV h' l').ownBlock with
      | none => exact .inr rfl
      | some q =>
        refine .inl fun e => ?_
        obtain ⟨p, hp, e1⟩ := hdrV_block e.symm
        obtain ⟨p', hp', e2⟩ := hdrV_block hb
        exact hf k j h h' p p' (by omega) hh hh' hp hp' (by omega)
    exact ownsRow_setCell_other h2 (own_ne h2 hcurq (by simp)) _
/-- What the round reads. -/
theorem SpB.read {g : Nat} {h : Hdr} {l : List Offer} (s : SpB lo hi w0 (some ⟨g, 0, none⟩) c hs ls k wr) (hh : hs[k]? = some h) (hl : ls[k]? = some l) : wr.cell? ⟨g, k, none⟩ = some (.slice h.1 l.length h.2) := by
  obtain ⟨xs, hx, hxs⟩ := s.hdr
  have hkl : k < ls.length := (List.getElem?_eq_some_iff.1 hl).1
  exact (hx.cellAt k (by omega)).trans (hxs k h l (Nat.le_refl _) hh hl)
theorem SpB.form (s : SpB lo hi w0 A c hs ls k wr) (hk : k < ls.length) : ∃ g, A = some ⟨g, 0, none⟩ := by
  obtain ⟨xs, hx, _⟩ := s.hdr
  obtain ⟨g, _, e, _⟩ := hx.form (by omega)
  injection e with e
  exact ⟨g, e⟩
end

/-- The instance with other offers of one buyer, none where that is refused. -/
def withI (n : Int) (ls : List (List Offer)) (b : Int) (l : List Offer) : Int × List (List Offer) := if withE n ls b l ≠ 0 then (0, []) else (n, ls.set b.toNat l)
def WithU (n : Int) (ls : List (List Offer)) (b : Int) (l : List Offer) (w : World) (e : Ending) (w' : World) : Prop :=
  ∃ A c hs, e = .returned (.tuple #[instV (withI n ls b l).1 A (withI n ls b l).2.length c, .int .i64 (withE n ls b l)]) ∧ OwnB w' w.heap.size A c hs (withI n ls b l).2 ∧ Far hs ∧ Below w.heap.size w w'
def RWithU (n : Int) (ls : List (List Offer)) (b : Int) (l : List Offer) (w : World) (e : Ending) (w' : World) : Prop :=
  ∃ A c hs, e = .returned (.tuple #[instV (withI n ls b l).1 A (withI n ls b l).2.length c, .int .i64 (withE n ls b l)]) ∧ Buys w' w'.heap.size A hs (withI n ls b l).2 ∧ Below w.heap.size w w'
theorem withU_of {n : Int} {ls : List (List Offer)} {b : Int} {l : List Offer} {w w' : World} {e : Ending} (h : WithPostF n ls b l w e w') : WithU n ls b l w e w' := by
  rcases h with ⟨hne, rfl, hb⟩ | ⟨h0, A, c, hs, rfl, ho, hf, hb⟩
  · refine ⟨none, 0, [], ?_, ?_, far_nil, hb⟩
    · unfold withI
      rw [if_pos hne]
      rfl
    · unfold withI
      rw [if_pos hne]
      exact ⟨rfl, World.ownsRow_nil _ _ _ _, fun i a l ha => by simp at ha, fun a ha => by cases ha⟩
  · refine ⟨A, c, hs, ?_, ?_, hf, hb⟩
    · unfold withI
      rw [if_neg (by simp [h0]), h0]
      simp
    · unfold withI
      rw [if_neg (by simp [h0])]
      exact ho
theorem rwithU_of {n : Int} {ls : List (List Offer)} {b : Int} {l : List Offer} {w w' : World} {e : Ending} (h : RWithPostL n ls b l w e w') : RWithU n ls b l w e w' := by
  rcases h with ⟨hne, rfl, hb⟩ | ⟨h0, A, c, hs, rfl, ho, hb⟩
  · refine ⟨none, 0, [], ?_, ?_, hb⟩
    · unfold withI
      rw [if_pos hne]
      rfl
    · unfold withI
      rw [if_pos hne]
      exact Buys.none_ _ _
  · refine ⟨A, c, hs, ?_, ?_, hb⟩
    · unfold withI
      rw [if_neg (by simp [h0]), h0]
      simp
    · unfold withI
      rw [if_neg (by simp [h0])]
      exact ho
theorem withI_len {n : Int} {ls : List (List Offer)} {b : Int} {l : List Offer} {m : Nat} (hl : ls.length ≤ m) : (withI n ls b l).2.length ≤ m := by
  unfold withI
  split
  · simp
  · simpa using hl
theorem withI_lens {n : Int} {ls : List (List Offer)} {b : Int} {l : List Offer} {m : Nat} (hl : ∀ x ∈ ls, x.length ≤ m) (h1 : l.length ≤ m) : ∀ x ∈ (withI n ls b l).2, x.length ≤ m := by
  unfold withI
  split
  · intro x hx
    simp at hx
  · intro x hx
    rcases List.mem_or_eq_of_mem_set hx with h | h
    · exact hl x h
    · rw [h]; exact h1
end Go.Proofs.YtkiebjgpghajbaaDoor
