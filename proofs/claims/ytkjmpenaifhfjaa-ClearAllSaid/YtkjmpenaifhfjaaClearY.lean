/- The walks of clear.whole, clear.of, clear.may, clear.From, clear.W: what they compute. -/
import Derived.Test.YtkjmpenaifhfjaaClearX
import Derived.Test.YtkjmpenaifhfjaaLift
namespace Go.Proofs.Ytkjmpenaifhfjaa
open Go.RowKit Go.Maps
open Go.ChangeMaps Go.WideMaps

/-! ### What an instance that may be is -/
theorem checkO_good {n : Int} {l : List Offer} (hw : OWide l) (h : (checkO n l).2 = 0) : 1 ≤ n ∧ n ≤ 10 ∧ l.length ≤ 8 ∧ GoodO l ∧ ∀ o ∈ l, o.1 < 2 ^ n.toNat := by
  unfold checkO at h
  by_cases h1 : n < 1 ∨ 10 < n
  · rw [if_pos h1] at h; cases h
  · rw [if_neg h1] at h
    by_cases h2 : 8 < l.length
    · rw [if_pos h2] at h; cases h
    · rw [if_neg h2] at h
      by_cases h3 : 0 ≤ idxTo (badO (allG n.toNat)) l
      · rw [if_pos h3] at h; cases h
      · have h4 : l.any (badO (allG n.toNat)) = false := by
          rw [← idxTo_any]
          simpa using h3
        rw [List.any_eq_false] at h4
        have key : ∀ o ∈ l, (0 < o.1 ∧ o.1 < 4294967296 ∧ 1 ≤ o.2 ∧ o.2 ≤ 1099511627776) ∧ o.1 < 2 ^ n.toNat := by
          intro o ho
          have h5 := h4 o ho
          have h6 := (hw o ho).1
          simp only [badO, Bool.or_eq_true, Bool.not_eq_true', decide_eq_true_eq, beq_iff_eq, not_or, Bool.not_eq_false] at h5
          obtain ⟨⟨⟨a1, a2⟩, a3⟩, a4⟩ := h5
          rw [within_all o.1 n.toNat h6 (by omega), decide_eq_true_eq] at a2
          exact ⟨⟨by omega, h6, by omega, by omega⟩, a2⟩
        exact ⟨by omega, by omega, by omega, fun o ho => (key o ho).1, fun o ho => (key o ho).2⟩
theorem instTo_good {n : Int} : ∀ {ls : List (List Offer)}, BWide ls → instTo n ls = 0 → ∀ l ∈ ls, (checkO n l).2 = 0
  | [], _, _, l, hl => by cases hl
  | a :: ls, hw, h, l, hl => by
    simp only [instTo] at h
    by_cases h1 : (checkO n a).2 = 0
    · simp only [h1, ne_eq, not_true_eq_false, if_false] at h
      rcases List.mem_cons.1 hl with rfl | hl
      · exact h1
      · exact instTo_good (fun x hx => hw x (List.mem_cons_of_mem _ hx)) h l hl
    · simp only [ne_eq, h1, not_false_eq_true, if_true] at h
structure GoodI (n : Int) (ls : List (List Offer)) : Prop where
  lo : 1 ≤ n
  hi : n ≤ 10
  few : ls.length ≤ 32
  short : ∀ l ∈ ls, l.length ≤ 8
  good : GoodB ls
  top : ∀ l ∈ ls, ∀ o ∈ l, o.1 < 2 ^ n.toNat
theorem instE_good {n : Int} {ls : List (List Offer)} (hw : BWide ls) (h : instE n ls = 0) : GoodI n ls := by
  unfold instE at h
  by_cases h1 : n < 1 ∨ 10 < n
  · rw [if_pos h1] at h; cases h
  · rw [if_neg h1] at h
    by_cases h2 : 32 < ls.length ∨ ls.any longB = true
    · rw [if_pos h2] at h; cases h
    · rw [if_neg h2] at h
      have key := fun l hl => checkO_good (hw l hl) (instTo_good hw h l hl)
      exact ⟨by omega, by omega, by omega, fun l hl => (key l hl).2.2.1, fun l hl => (key l hl).2.2.2.1, fun l hl => (key l hl).2.2.2.2⟩

def mayE (n : Int) (ls : List (List Offer)) (k : Int) (f : Nat) : Int := if instE n ls ≠ 0 then instE n ls else if k < 0 ∨ (ls.length : Int) < k ∨ withinB f (allG n.toNat) = false then 2 else 0
def fromI (n : Int) (ls : List (List Offer)) (k : Int) (f : Nat) : Int × Int := if mayE n ls k f ≠ 0 then (0, mayE n ls k f) else (bestW (ls.drop k.toNat) f, 0)
theorem mayE_good {n : Int} {ls : List (List Offer)} {k : Int} {f : Nat} (hw : BWide ls) (hf : f < 4294967296) (h : mayE n ls k f = 0) : GoodI n ls ∧ 0 ≤ k ∧ k ≤ ls.length ∧ f < 2 ^ n.toNat := by
  unfold mayE at h
  by_cases h1 : instE n ls = 0
  · rw [if_neg (by simpa using h1)] at h
    have hg := instE_good hw h1
    by_cases h2 : k < 0 ∨ (ls.length : Int) < k ∨ withinB f (allG n.toNat) = false
    · rw [if_pos h2] at h; cases h
    · simp only [not_or, Bool.not_eq_false] at h2
      obtain ⟨h3, h4, h5⟩ := h2
      rw [within_all f n.toNat hf (by have := hg.hi; omega), decide_eq_true_eq] at h5
      exact ⟨hg, by omega, by omega, h5⟩
  · rw [if_pos h1] at h
    exact absurd h h1

set_option maxHeartbeats 1000000 in
theorem whole_any (n : Int) (A : Option Addr) (l c : Nat) (w : World) : Calls Try.prog 35 #[instV n A l c] w (ValPost (.int .u32 (allI n : Int)) w) := by
  have HA := hide (fun W => all_any n W)
  unfold AllPost at HA
  generalize (allI n : Int) = a at *
  generalize allE n = b at *
  simp only [instV]
  go_enter Try.func35, Try.ntmps35
  go_wp2_with (go_at_call 48; refine (HA.out _).mono ?_; rintro e w' ⟨rfl, rfl⟩)
  go_ret
  exact ⟨rfl, (Below.refl _ _).alloc (Nat.le_refl _) _⟩

def OfPost (n : Int) (A : Option Addr) (c : Nat) (hs : List Hdr) (ls : List (List Offer)) (w : World) (e : Ending) (w' : World) : Prop :=
  ∃ p m, e = .returned (.pointer (some ⟨p, 0, none⟩)) ∧ Board w' w.heap.size p m n A c hs ls ∧ Below w.heap.size w w'
set_option maxHeartbeats 1000000 in
theorem of_any (n : Int) (A : Option Addr) (c : Nat) (hs : List Hdr) (ls : List (List Offer)) (w : World) (h : Buys w w.heap.size A hs ls) : Calls Try.prog 29 #[instV n A ls.length c] w (OfPost n A c hs ls w) := by
  have hmm := @run_makeMap Try.prog
  simp only [instV]
  go_enter Try.func29, Try.ntmps29
  go_wp2
  go_ret
  have hB : Below w.heap.size w (((w.alloc (.cells #[.int .i64 n, .slice A ls.length c] 24)).alloc (.map #[] 0)).alloc (.cells #[.int .i64 n, .slice A ls.length c, .map (some (w.heap.size + 1))] 91)) :=
    (((Below.refl _ _).alloc (Nat.le_refl _) _).alloc (by simp) _).alloc (by simp; omega) _
  refine ⟨w.heap.size + 2, w.heap.size + 1, rfl, ⟨?_, (h.below hB), ⟨.map [], ?_, Memo.nil⟩, by omega, by omega⟩, hB⟩
  · have := heap_alloc_new ((w.alloc (.cells #[.int .i64 n, .slice A ls.length c] 24)).alloc (.map #[] 0)) (.cells #[.int .i64 n, .slice A ls.length c, .map (some (w.heap.size + 1))] 91)
    simpa using this
  · have h1 := World.ownsMap_made (H := Unit) (w.alloc (.cells #[.int .i64 n, .slice A ls.length c] 24)) Try.prog 93 (plainElem Try.prog 2)
    simp only [World.size_alloc] at h1
    exact (h1.alloc _).mono (Nat.zero_le _)

set_option maxRecDepth 100000 in
set_option maxHeartbeats 2000000 in
theorem may_any (n : Int) (A : Option Addr) (c : Nat) (hs : List Hdr) (ls : List (List Offer)) (k : Int) (f : Nat) (w : World) (h : Buys w w.heap.size A hs ls) (hl : ls.length ≤ 1000000) (hls : BLens ls) (hw : BWide ls) (hf : f < 4294967296) :
    Calls Try.prog 28 #[instV n A ls.length c, .int .i64 k, .int .u32 (f : Int)] w (IntPost (mayE n ls k f) w) := by
  have hB : Below w.heap.size w (w.alloc (.cells #[.int .i64 n, .slice A ls.length c] 24)) := (Below.refl _ _).alloc (Nat.le_refl _) _
  have HI := hide (inst_any n A c hs ls _ (h.up hB) hl hls hw)
  by_cases h1 : instE n ls = 0
  · have hg := instE_good hw h1
    have e1 : mayE n ls k f = if k < 0 ∨ (ls.length : Int) < k ∨ withinB f (allG n.toNat) = false then 2 else 0 := by unfold mayE; rw [if_neg (by simpa using h1)]
    rw [e1]
    have e2 : allI n = allG n.toNat := by unfold allI; rw [if_neg (by have := hg.lo; have := hg.hi; omega)]
    have HWH := hide (fun W => whole_any n A ls.length c W)
    rw [e2] at HWH
    have HWI := hide (fun W => within_any f (allG n.toNat) hf (allG_lt _ (by have := hg.hi; omega)) W)
    rw [h1] at HI
    clear h1 hg e1 e2 h hw
    generalize withinB f (allG n.toNat) = b at *
    generalize (allG n.toNat : Int) = al at *
    simp only [instV] at *
    by_cases h2 : k < 0
    · rw [if_pos (.inl h2)]
      go_enter Try.func28, Try.ntmps28
      go_wp2_with (first | (go_at_call 41; refine (HI.out).mono ?_; rintro e w1 ⟨rfl, hb1⟩; have e1 := (bcell hb1).1 w.heap.size 1 (by simp); have e0 := (bcell hb1).1 w.heap.size 0 (by simp)))
      go_ret
      exact ⟨rfl, hB.trans (hb1.mono (by simp))⟩
    · by_cases h3 : (ls.length : Int) < k
      · rw [if_pos (.inr (.inl h3))]
        go_enter Try.func28, Try.ntmps28
        go_wp2_with (first | (go_at_call 41; refine (HI.out).mono ?_; rintro e w1 ⟨rfl, hb1⟩; have e1 := (bcell hb1).1 w.heap.size 1 (by simp); have e0 := (bcell hb1).1 w.heap.size 0 (by simp)))
        go_ret
        exact ⟨rfl, hB.trans (hb1.mono (by simp))⟩
      · cases b
        · rw [if_pos (.inr (.inr rfl))]
          go_enter Try.func28, Try.ntmps28
          go_wp2_with (first | (go_at_call 41; refine (HI.out).mono ?_; rintro e w1 ⟨rfl, hb1⟩; have e1 := (bcell hb1).1 w.heap.size 1 (by simp); have e0 := (bcell hb1).1 w.heap.size 0 (by simp); have HB1 : Hid (Below w.heap.size w w1) := hide (hB.trans (hb1.mono (by simp)))) | (go_at_call 35; refine (HWH.out _).mono ?_; rintro e w2 ⟨rfl, hb2⟩) | (go_at_call 46; refine (HWI.out _).mono ?_; rintro e _ ⟨rfl, rfl⟩))
          go_ret
          exact ⟨rfl, HB1.out.trans (hb2.mono HB1.out.size)⟩
        · rw [if_neg (by simp; omega)]
          go_enter Try.func28, Try.ntmps28
          go_wp2_with (first | (go_at_call 41; refine (HI.out).mono ?_; rintro e w1 ⟨rfl, hb1⟩; have e1 := (bcell hb1).1 w.heap.size 1 (by simp); have e0 := (bcell hb1).1 w.heap.size 0 (by simp); have HB1 : Hid (Below w.heap.size w w1) := hide (hB.trans (hb1.mono (by simp)))) | (go_at_call 35; refine (HWH.out _).mono ?_; rintro e w2 ⟨rfl, hb2⟩) | (go_at_call 46; refine (HWI.out _).mono ?_; rintro e _ ⟨rfl, rfl⟩))
          go_ret
          exact ⟨rfl, HB1.out.trans (hb2.mono HB1.out.size)⟩
  · have e1 : mayE n ls k f = instE n ls := by unfold mayE; rw [if_pos h1]
    rw [e1]
    have h1' : (instE n ls != 0) = true := by simpa using h1
    generalize instE n ls = z at *
    clear h1 e1 h
    simp only [instV] at *
    go_enter Try.func28, Try.ntmps28
    go_wp2_with (first | (go_at_call 41; refine (HI.out).mono ?_; rintro e w1 ⟨rfl, hb1⟩))
    go_ret
    exact ⟨rfl, hB.trans (hb1.mono (by simp))⟩

def FromPost (n : Int) (ls : List (List Offer)) (k : Int) (f : Nat) (w : World) (e : Ending) (w' : World) : Prop :=
  e = .returned (.tuple #[.int .i64 (fromI n ls k f).1, .int .i64 (fromI n ls k f).2]) ∧ Below w.heap.size w w'
set_option maxRecDepth 100000 in
set_option maxHeartbeats 2000000 in
theorem from_any (n : Int) (A : Option Addr) (c : Nat) (hs : List Hdr) (ls : List (List Offer)) (k : Int) (f : Nat) (w : World) (h : Buys w w.heap.size A hs ls) (hl : ls.length ≤ 1000000) (hls : BLens ls) (hw : BWide ls) (hf : f < 4294967296) :
    Calls Try.prog 11 #[instV n A ls.length c, .int .i64 k, .int .u32 (f : Int)] w (FromPost n ls k f w) := by
  have hB : Below w.heap.size w (w.alloc (.cells #[.int .i64 n, .slice A ls.length c] 24)) := (Below.refl _ _).alloc (Nat.le_refl _) _
  have HI := hide (may_any n A c hs ls k f _ (h.up hB) hl hls hw hf)
  unfold FromPost
  by_cases h1 : mayE n ls k f = 0
  · obtain ⟨hg, hk0, hkl, hft⟩ := mayE_good hw hf h1
    have e1 : fromI n ls k f = (bestW (ls.drop k.toNat) f, 0) := by unfold fromI; rw [if_neg (by simpa using h1)]
    rw [e1]
    rw [h1] at HI
    obtain ⟨q, rfl⟩ : ∃ q : Nat, k = q := ⟨k.toNat, by omega⟩
    rw [Int.toNat_natCast]
    have HOF : Hid (∀ W, Below w.heap.size w W → Calls Try.prog 29 #[instV n A ls.length c] W (OfPost n A c hs ls W)) := hide (fun W hb => of_any n A c hs ls W (h.up hb))
    have HW : Hid (∀ B p m W, Board W B p m n A c hs ls → Calls Try.prog 30 #[.pointer (some ⟨p, 0, none⟩), .int .i64 (q : Int), .int .u32 (f : Int)] W (WPost B p m n A c hs ls (bestW (ls.drop q) f) W)) :=
      hide (fun B p m W hb => w_any B p m n A c hs ls hg.few hg.hi hg.good (fun l hl' => by have := hg.short l hl'; omega) q (by omega) f W hft hb)
    clear h1 hg e1 h hw hft
    generalize bestW (ls.drop q) f = v at *
    simp only [instV] at *
    go_enter Try.func11, Try.ntmps11
    go_wp2_with (first | (go_at_call 28; refine (HI.out).mono ?_; rintro e w1 ⟨rfl, hb1⟩; have e1 := (bcell hb1).1 w.heap.size 1 (by simp); have e0 := (bcell hb1).1 w.heap.size 0 (by simp); have HB1 : Hid (Below w.heap.size w w1) := hide (hB.trans (hb1.mono (by simp)))) | (go_at_call 29; refine (HOF.out _ HB1.out).mono ?_; rintro e w2 ⟨p, m, rfl, hbd, hb2⟩; have HBD := hide hbd; have HB2 := hide hb2; clear hbd hb2) | (go_at_call 30; refine (HW.out _ p m _ HBD.out).mono ?_; rintro e w3 ⟨rfl, hbd3, hg3⟩))
    go_ret2
    exact ⟨rfl, (HB1.out.trans (HB2.out.mono HB1.out.size)).grown hg3 (by have := HB1.out.size; have := HB2.out.size; omega) (fun j hj => by have := HBD.out.bm; have := HB1.out.size; have := Option.some.inj hj; omega)⟩
  · have e1 : fromI n ls k f = (0, mayE n ls k f) := by unfold fromI; rw [if_pos h1]
    rw [e1]
    have h1' : (mayE n ls k f != 0) = true := by simpa using h1
    generalize mayE n ls k f = z at *
    clear h1 e1 h
    simp only [instV] at *
    go_enter Try.func11, Try.ntmps11
    go_wp2_with (first | (go_at_call 28; refine (HI.out).mono ?_; rintro e w1 ⟨rfl, hb1⟩))
    go_ret2
    exact ⟨rfl, hB.trans (hb1.mono (by simp))⟩

set_option maxRecDepth 100000 in
set_option maxHeartbeats 2000000 in
theorem W_any (n : Int) (A : Option Addr) (c : Nat) (hs : List Hdr) (ls : List (List Offer)) (w : World) (h : Buys w w.heap.size A hs ls) (hl : ls.length ≤ 1000000) (hls : BLens ls) (hw : BWide ls) :
    Calls Try.prog 17 #[instV n A ls.length c] w (FromPost n ls 0 (allI n) w) := by
  have hB : Below w.heap.size w (w.alloc (.cells #[.int .i64 n, .slice A ls.length c] 24)).drew := ((Below.refl _ _).alloc (Nat.le_refl _) _).drew
  have hf : allI n < 4294967296 := by
    unfold allI
    split
    · omega
    · exact allG_lt _ (by omega)
  have HF : Hid (∀ W, Below w.heap.size w W → Calls Try.prog 11 #[instV n A ls.length c, .int .i64 0, .int .u32 (allI n : Int)] W (FromPost n ls 0 (allI n) W)) := hide (fun W hb => from_any n A c hs ls 0 (allI n) W (h.up hb) hl hls hw hf)
  have HWH := hide (fun W => whole_any n A ls.length c W)
  unfold FromPost at *
  generalize (allI n : Int) = al at *
  generalize fromI n ls 0 (allI n) = r at *
  have HB := hide hB
  clear h hw hf hB
  simp only [instV] at *
  go_enter Try.func17, Try.ntmps17
  go_wp2_with fail
  go_region_held3 (fun w' => w'.cell? ⟨w.heap.size, 0, none⟩ = some (.int .i64 n) ∧ w'.cell? ⟨w.heap.size, 1, none⟩ = some (.slice A ls.length c)) (first | go_keep | exact ⟨r0, r1⟩ | exact ⟨s0, s1⟩)
    (first | (go_at_call 35; refine (HWH.out _).mono ?_; rintro e w1 ⟨rfl, hb1⟩; have r0 := ((bcell hb1).1 w.heap.size 0 (by simp)).trans (World.cell?_alloc_mark w _ _ (0, 0) 0); have r1 := ((bcell hb1).1 w.heap.size 1 (by simp)).trans (World.cell?_alloc_mark w _ _ (0, 0) 1); simp at r0 r1; have HB1 : Hid (Below w.heap.size w w1) := hide (HB.out.trans (hb1.mono (by simp))); clear hb1) | (go_at_call 11; refine (HF.out _ HB1.out).mono ?_; rintro e w2 ⟨rfl, hb2⟩; have s0 := ((bcell hb2).1 w.heap.size 0 (by have := lt_of_cell r0; simpa using this)).trans r0; have s1 := ((bcell hb2).1 w.heap.size 1 (by have := lt_of_cell r0; simpa using this)).trans r1))
  all_goals go_wp2_with fail
  all_goals go_ret2
  all_goals exact ⟨rfl, HB1.out.trans (hb2.mono HB1.out.size)⟩
end Go.Proofs.Ytkjmpenaifhfjaa
