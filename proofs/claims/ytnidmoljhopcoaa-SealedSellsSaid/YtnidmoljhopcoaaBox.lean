/- The walks of sealed's boxes: NewBox, find, Bid of a new bidder, Sell. -/
import Derived.Test.YtnidmoljhopcoaaSellAll
namespace Go.Proofs.Ytnidmoljhopcoaa
open Go.RowKit

def isB (bidder : Int) (x : Int × Int) : Bool := x.1 == bidder
set_option maxHeartbeats 1000000 in
theorem isb_any (bidder : Int) (g : Nat) (x : Int × Int) (w : World) (hg : w.cell? ⟨g, 0, none⟩ = some (.int .i64 bidder)) (hgB : g < w.heap.size) :
    Calls Try.prog 47 #[.agg #[.int .i64 x.1, .int .i64 x.2], .pointer (some ⟨g, 0, none⟩)] w (ValPost (.bool (isB bidder x)) w) := by
  obtain ⟨x1, x2⟩ := x
  have hB : Below w.heap.size w (w.alloc (.cells #[.int .i64 x1, .int .i64 x2] 33)) := (Below.refl _ _).alloc (Nat.le_refl _) _
  have hc : ∀ ob, (w.alloc ob).cell? ⟨g, 0, none⟩ = some (.int .i64 bidder) := fun ob => (World.cell?_alloc_lt w ob ⟨g, 0, none⟩ hgB).trans hg
  go_enter Try.func47, Try.ntmps47
  go_wp2
  all_goals go_ret
  all_goals refine ⟨by simp [isB, *], (Below.refl _ _).alloc (Nat.le_refl _) _⟩

set_option maxRecDepth 100000 in
set_option maxHeartbeats 2000000 in
theorem index47 (bidder : Int) (g : Nat) (A : Option Addr) (c : Nat) (l : List (Int × Int)) (w : World) (hg : w.cell? ⟨g, 0, none⟩ = some (.int .i64 bidder)) (hgB : g < w.heap.size) (h : Bids w w.heap.size A l) (hl : l.length ≤ 1000000) :
    Calls Try.prog 42 #[.slice A l.length c, .func (.func 47) #[] #[.pointer (some ⟨g, 0, none⟩)]] w (IntPost (idxTo (isB bidder) l) w) := by
  have hat := h.at_
  go_enter Try.func42, Try.ntmps42
  go_wp2_with fail
  go_loopw [8] (fun i wr => ∃ k : Nat, k ≤ l.length ∧ i = .int .i64 k ∧ (∀ j y, j < k → l[j]? = some y → (isB bidder) y = false) ∧ Below w.heap.size w wr) (fun i _ => l.length - (intOf i).toNat)
  case atStart => exact ⟨0, Nat.zero_le _, rfl, fun j y hj => absurd hj (by omega), Below.refl _ _⟩
  case round =>
    obtain ⟨k, hk, rfl, hno, hb⟩ := hrel
    have HN := hide hno; clear hno
    by_cases hlt : k < l.length
    · obtain ⟨b, o, rfl, hbB, hc⟩ := hat (by omega)
      obtain ⟨x, hx⟩ : ∃ x, l[k]? = some x := ⟨l[k], List.getElem?_eq_getElem hlt⟩
      obtain ⟨hc0, hc1⟩ := hc k x hx
      have d0 := (hb.cell (p := ⟨b, o + k * 2, none⟩) hbB).trans hc0
      have d1 := (hb.cell (p := ⟨b, o + k * 2 + 1, none⟩) hbB).trans hc1
      have hz := hb.size
      have HX := hide hx
      have HB := hide hb
      clear hc0 hc1 hc hat hx hb
      have HC : Hid (∀ W, Below w.heap.size w W → Calls Try.prog 47 #[.agg #[.int .i64 x.1, .int .i64 x.2], .pointer (some ⟨g, 0, none⟩)] W (ValPost (.bool ((isB bidder) x)) W)) := hide (fun W hb => isb_any bidder g x W ((hb.cell (p := ⟨g, 0, none⟩) hgB).trans hg) (by have := hb.size; omega))
      by_cases hp : (isB bidder) x = true
      · rw [hp] at HC
        have HR := hide (idxTo_hit HX.out hp HN.out)
        clear hp
        go_wp2_with (go_at_call 47; refine (HC.out _ HB.out).mono ?_; rintro e w' ⟨rfl, hb1⟩)
        go_ret
        refine ⟨by rw [HR.out]; rfl, HB.out.trans (hb1.mono hz)⟩
      · have hp' : (isB bidder) x = false := by simpa using hp
        rw [hp'] at HC
        have HP := hide hp'
        clear hp hp'
        go_wp2_with (go_at_call 47; refine (HC.out _ HB.out).mono ?_; rintro e w' ⟨rfl, hb1⟩)
        go_roundw
        case rel =>
          refine ⟨k + 1, by omega, by go_num, fun j y hj hy => ?_, HB.out.trans (hb1.mono hz)⟩
          rcases Nat.lt_or_ge j k with h1 | h1
          · exact HN.out j y h1 hy
          · obtain rfl : j = k := by omega
            rw [HX.out] at hy
            injection hy with hy
            rw [← hy]
            exact HP.out
        case measure => simp [intOf]; omega
    · have : k = l.length := by omega
      subst this
      have HR := hide (idxTo_miss HN.out)
      go_wp2_with fail
      go_ret
      exact ⟨by rw [HR.out]; rfl, hb⟩

/-- A box in memory: its floor, its bids. -/
structure BoxOf (w : World) (B p : Nat) (v : Value) (floor : Int) (l : List (Int × Int)) : Prop where
  blk : w.heap[p]? = some (.cells #[.bool true, .int .i64 floor, v] 60 (0, 0))
  row : w.ownsRow B 33 2 v l.length (flat l)
  base : B ≤ p
section
variable {w : World} {B p : Nat} {v : Value} {floor : Int} {l : List (Int × Int)}
theorem BoxOf.cell (h : BoxOf w B p v floor l) (i : Nat) : w.cell? ⟨p, i, none⟩ = (#[.bool true, .int .i64 floor, v] : Array Value)[i]? := cell_of_row w p i _ 60 (0, 0) h.blk
theorem BoxOf.free (h : BoxOf w B p v floor l) (i : Nat) : w.frozen? ⟨p, i, none⟩ = false := by
  have := h.blk
  simp [World.frozen?, this]
end
theorem info33 : EI Try.prog 33 (.agg #[.int .i64 0, .int .i64 0]) 2 16 := by unfold EI; kernel_rfl

def BoolPost (b : Bool) (w : World) (e : Ending) (w' : World) : Prop := e = .returned (.bool b) ∧ w = w'
set_option maxHeartbeats 1000000 in
theorem none_any (p : Nat) (b : Bool) (w : World) (hc : w.cell? ⟨p, 0, none⟩ = some (.bool b)) : Calls Try.prog 36 #[.pointer (some ⟨p, 0, none⟩)] w (BoolPost (!b) w) := by
  go_enter Try.func36, Try.ntmps36
  go_wp2
  go_ret
  exact ⟨rfl, rfl⟩
set_option maxHeartbeats 1000000 in
theorem none_nil (w : World) : Calls Try.prog 36 #[.pointer none] w (BoolPost true w) := by
  go_enter Try.func36, Try.ntmps36
  go_wp2
  go_ret
  exact ⟨rfl, rfl⟩
def NumPost (n : Int) (w : World) (e : Ending) (w' : World) : Prop := e = .returned (.int .i64 n) ∧ w = w'
set_option maxHeartbeats 1000000 in
theorem num_any (n : Int) (w : World) : Calls Try.prog 8 #[.int .i64 n] w (NumPost n w) := by
  go_enter Try.func8, Try.ntmps8
  go_wp2
  go_ret
  exact ⟨rfl, rfl⟩

def NewPost (floor : Int) (w : World) (e : Ending) (w' : World) : Prop :=
  ∃ p, e = .returned (.tuple #[.pointer (some ⟨p, 0, none⟩), .int .i64 0]) ∧ BoxOf w' w.heap.size p (.slice none 0 0) floor [] ∧ Below w.heap.size w w'
set_option maxHeartbeats 1000000 in
theorem new_any (floor : Int) (w : World) (h : coinsB floor = true) : Calls Try.prog 10 #[.int .i64 floor] w (NewPost floor w) := by
  have HC := hide (fun W => coins_any floor W)
  rw [h] at HC
  go_enter Try.func10, Try.ntmps10
  go_wp2_with (go_at_call 26; refine (HC.out _).mono ?_; rintro e w' ⟨rfl, rfl⟩)
  go_ret2
  exact ⟨w.heap.size, rfl, ⟨heap_alloc_new w _, World.ownsRow_nil _ _ _ _, Nat.le_refl _⟩, (Below.refl _ _).alloc (Nat.le_refl _) _⟩

set_option maxHeartbeats 1000000 in
theorem all_any (p : Option Addr) (w : World) : Calls Try.prog 15 #[.pointer p] w fun e w' => e = .returned (.func (.func 37) #[] #[.pointer (some ⟨w.heap.size, 0, none⟩)]) ∧ w' = w.alloc (.cells #[.pointer p] 39) := by
  have hmf : ∀ (fn : Fn) (first cap : Array Value) (w : World), (Instr.makeFunc fn first cap).run Try.prog w = .ok (.func fn first cap) w := fun _ _ _ _ => rfl
  go_enter Try.func15, Try.ntmps15
  go_wp2
  go_ret
  exact ⟨rfl, rfl⟩

set_option maxHeartbeats 1000000 in
theorem find_any (B p : Nat) (v : Value) (floor bidder : Int) (l : List (Int × Int)) (w : World) (h : BoxOf w B p v floor l) (hl : l.length ≤ 1000000) :
    Calls Try.prog 44 #[.pointer (some ⟨p, 0, none⟩), .int .i64 bidder] w (IntPost (idxTo (isB bidder) l) w) := by
  have hmf : ∀ (fn : Fn) (first cap : Array Value) (w : World), (Instr.makeFunc fn first cap).run Try.prog w = .ok (.func fn first cap) w := fun _ _ _ _ => rfl
  obtain ⟨A, c, rfl, _⟩ := own_sh h.row
  have c2 := h.cell 2
  simp at c2
  have hlt := lt_of_block h.blk
  have hc : ∀ ob, (w.alloc ob).cell? ⟨p, 2, none⟩ = some (.slice A l.length c) := fun ob => (World.cell?_alloc_lt w ob ⟨p, 2, none⟩ hlt).trans c2
  have hR : Bids w w.heap.size A l := Reads.of_own h.row
  have HI : Hid (∀ ob, (w.alloc ob).cell? ⟨w.heap.size, 0, none⟩ = some (.int .i64 bidder) → Calls Try.prog 42 #[.slice A l.length c, .func (.func 47) #[] #[.pointer (some ⟨w.heap.size, 0, none⟩)]] (w.alloc ob) (IntPost (idxTo (isB bidder) l) (w.alloc ob))) :=
    hide (fun ob hob => index47 bidder w.heap.size A c l (w.alloc ob) hob (by simp) ((hR.alloc (Nat.le_refl _) ob).more (by simp)) hl)
  go_enter Try.func44, Try.ntmps44
  go_wp2_with (go_at_call 42; refine (HI.out _ (World.cell?_alloc_mark w _ 3 (0, 0) 0)).mono ?_; rintro e w' ⟨rfl, hb⟩)
  go_ret
  exact ⟨rfl, ((Below.refl _ _).alloc (Nat.le_refl _) _).trans (hb.mono (B' := w.heap.size) (by simp))⟩
def NumBelow (n : Int) (w : World) (e : Ending) (w' : World) : Prop := e = .returned (.int .i64 n) ∧ Below w.heap.size w w'
set_option maxHeartbeats 1000000 in
theorem drop_miss (B p : Nat) (v : Value) (floor bidder : Int) (l : List (Int × Int)) (w : World) (h : BoxOf w B p v floor l) (hl : l.length ≤ 1000000) (hi : idxTo (isB bidder) l < 0) :
    Calls Try.prog 30 #[.pointer (some ⟨p, 0, none⟩), .int .i64 bidder] w (NumBelow 4 w) := by
  have c0 := h.cell 0
  simp at c0
  have HF := hide (find_any B p v floor bidder l w h hl)
  generalize idxTo (isB bidder) l = i at *
  clear h
  go_enter Try.func30, Try.ntmps30
  go_wp2_with (first | (go_at_call 36; refine (none_any p true _ c0).mono ?_; rintro e w' ⟨rfl, rfl⟩) | (go_at_call 44; refine (HF.out).mono ?_; rintro e w' ⟨rfl, hb⟩))
  go_ret
  exact ⟨rfl, hb⟩

def Foot (p : Nat) (v : Value) (k : Nat) : Prop := k = p ∨ v.ownBlock = some k
def BidPost (B p : Nat) (v : Value) (floor : Int) (l' : List (Int × Int)) (w : World) (e : Ending) (w' : World) : Prop :=
  e = .returned (.int .i64 0) ∧ ∃ v', BoxOf w' B p v' floor l' ∧ Below B w w'
set_option maxHeartbeats 1000000 in
theorem bid_miss (B p : Nat) (v : Value) (floor bidder c : Int) (l : List (Int × Int)) (w : World) (h : BoxOf w B p v floor l) (hB : B ≤ w.heap.size) (hl : l.length ≤ 100000) (hi : idxTo (isB bidder) l < 0) (hb : 0 ≤ bidder) (hc : coinsB c = true) (hf : floor ≤ c) :
    Calls Try.prog 23 #[.pointer (some ⟨p, 0, none⟩), .int .i64 bidder, .int .i64 c] w (BidPost B p v floor (l ++ [(bidder, c)]) w) := by
  obtain ⟨A, cp, rfl, _⟩ := own_sh h.row
  have c0 := h.cell 0
  have c1 := h.cell 1
  simp at c0 c1
  have HC := hide (fun W => coins_any c W)
  rw [hc] at HC
  have HD := hide (drop_miss B p _ floor bidder l w h (by omega) hi)
  have HB := hide h
  have hlt := lt_of_block h.blk
  clear hi hc h
  go_enter Try.func23, Try.ntmps23
  go_wp2_with (first | (go_at_call 36; refine (none_any p true _ c0).mono ?_; rintro e w' ⟨rfl, rfl⟩) | (go_at_call 26; refine (HC.out _).mono ?_; rintro e w' ⟨rfl, rfl⟩))
  refine (HD.out).mono ?_
  rintro e w1 ⟨rfl, hb1⟩
  have hblk1 : w1.heap[p]? = some (.cells #[.bool true, .int .i64 floor, .slice A l.length cp] 60 (0, 0)) := (hb1.block p hlt).trans HB.out.blk
  have hrow1 := own_below HB.out.row hb1 (Nat.le_refl _)
  have d0 := cell_of_row w1 p 0 _ 60 (0, 0) hblk1
  have d1 := cell_of_row w1 p 1 _ 60 (0, 0) hblk1
  have d2 := cell_of_row w1 p 2 _ 60 (0, 0) hblk1
  simp at d0 d1 d2
  have g2 : w1.frozen? ⟨p, 2, none⟩ = false := by simp [World.frozen?, hblk1]
  have np := own_ne hrow1 hblk1 (by simp)
  have G1 : Hid (∀ u ∈ [Value.int .i64 bidder, .int .i64 c], u.oneCell' = true) := hide (by intro u hu; simp at hu; rcases hu with rfl | rfl <;> rfl)
  have G2 : Hid (l.length + 1 ≤ maxLen) := hide (by unfold maxLen; omega)
  have G3 : Hid ((l.length + 1) * 16 ≤ 140737488355328) := hide (by omega)
  have G4 : Hid (B ≤ w1.heap.size) := hide (by have := hb1.size; omega)
  have HBL := hide hblk1
  have HROW := hide hrow1
  have HB1 := hide hb1
  clear c0 c1 hblk1 hrow1 hb1
  go_wp2_with (at_builtin; refine wpList_app rfl (.tmp 32) (.tmp 36) 22 rfl B (.agg #[.int .i64 0, .int .i64 0]) 2 16 info33 Try.underlying22 rfl (by decide) _ _ _ rfl HROW.out 1 1 rfl rfl G1.out G2.out G3.out G4.out ?_; intro v' w2 hown hg _ _; have hp2 := (hg.block p (lt_of_block HBL.out) (Ne.symm np)).trans HBL.out; have np' := own_ne hown hp2 (by simp); have e0 := cell_of_row w2 p 2 _ 60 (0, 0) hp2; have e1 : w2.frozen? ⟨p, 2, none⟩ = false := (by simp [World.frozen?, hp2]); obtain ⟨A', cp', hv', _⟩ := own_sh hown; rw [hv'] at hown np' ⊢; have HO := hide hown; have HP2 := hide hp2; have HG := hide hg; clear hown hp2 hg hv')
  go_ret
  refine ⟨rfl, _, ⟨setCell_block HP2.out 2 _, ?_, HB.out.base⟩, ?_⟩
  · have := ownsRow_setCell_other HO.out (a := ⟨p, 2, none⟩) np' (.slice A' (l.length + 1) cp')
    rw [flat_append, List.length_append]
    exact this
  · refine Below.setCell ?_ HB.out.base _
    exact ((HB1.out.mono hB).grown HG.out G4.out (fun k hk => (HROW.out.lt k hk).1))
end Go.Proofs.Ytnidmoljhopcoaa
