/- The walks of sealed.come, sealed.Sell: what they compute. -/
import Derived.Test.YtnidmoljhopcoaaBest
import Derived.StillTailTactics
namespace Go.Proofs.Ytnidmoljhopcoaa
open Go.RowKit

abbrev SoldT := Bool × Int × Int × Int
def soldV (s : SoldT) : Value := .agg #[.bool s.1, .int .i64 s.2.1, .int .i64 s.2.2.1, .int .i64 s.2.2.2]
def noSold : SoldT := (false, 0, 0, 0)
def priceI (floor : Int) (l : List (Int × Int)) (at_ : Int) : Int := if 0 ≤ bestI floor l at_ then coinsAt l (bestI floor l at_).toNat else floor
def comeI (floor : Int) (l : List (Int × Int)) : SoldT :=
  if bestI floor l (-1) < 0 then noSold else (true, ((l[(bestI floor l (-1)).toNat]?).getD (0, 0)).1, coinsAt l (bestI floor l (-1)).toNat, priceI floor l (bestI floor l (-1)))

def ValPost (v : Value) (w : World) (e : Ending) (w' : World) : Prop := e = .returned v ∧ Below w.heap.size w w'
set_option maxRecDepth 100000 in
set_option maxHeartbeats 2000000 in
theorem come_any (floor : Int) (A : Option Addr) (c : Nat) (l : List (Int × Int)) (w : World) (h : Bids w w.heap.size A l) (hl : l.length ≤ 1000000) :
    Calls Try.prog 28 #[.int .i64 floor, .slice A l.length c] w (ValPost (soldV (comeI floor l)) w) := by
  have h1 := bestTo_bd floor (-1) l l.length
  have HB1 : Hid (∀ W, Below w.heap.size w W → Calls Try.prog 43 #[.int .i64 floor, .slice A l.length c, .int .i64 (-1)] W (IntPost (bestI floor l (-1)) W)) :=
    hide (fun W hb => best_any floor (-1) A c l W ((h.below hb).more hb.size) hl)
  have HB2 : Hid (∀ n W, Below w.heap.size w W → Calls Try.prog 43 #[.int .i64 floor, .slice A l.length c, .int .i64 n] W (IntPost (bestI floor l n) W)) :=
    hide (fun n W hb => best_any floor n A c l W ((h.below hb).more hb.size) hl)
  by_cases ha : bestI floor l (-1) < 0
  · have hr : comeI floor l = noSold := by unfold comeI; rw [if_pos ha]
    have HR := hide hr; clear hr
    change -1 ≤ bestI floor l (-1) ∧ _ at h1
    generalize bestI floor l (-1) = t at *
    clear h1
    go_enter Try.func28, Try.ntmps28
    go_wp2_with fail
    refine (HB1.out _ ((Below.refl _ _).alloc (Nat.le_refl _) _)).mono ?_
    rintro e w1 ⟨rfl, hb1⟩
    have hc1 := fun o => (bcell hb1).1 w.heap.size o (by simp)
    have hf1 := fun o => (bcell hb1).2 w.heap.size o (by simp)
    have hz1 : w.heap.size < w1.heap.size := by have := hb1.size; simp at this; omega
    go_wp2_with fail
    refine bodyPost_ret (v := soldV noSold) (by simp [results, Try.results28, go_sem, soldV, noSold, hc1, hz1]) rfl ?_
    refine ⟨by rw [HR.out], ?_⟩
    exact ((((((Below.refl _ _).alloc (Nat.le_refl _) _).trans (hb1.mono (by simp))).setCell (Nat.le_refl _) _).setCell (Nat.le_refl _) _).setCell (Nat.le_refl _) _).setCell (Nat.le_refl _) _
  · change -1 ≤ bestI floor l (-1) ∧ bestI floor l (-1) < _ at h1
    obtain ⟨j, hj⟩ : ∃ j : Nat, bestI floor l (-1) = j := ⟨(bestI floor l (-1)).toNat, by omega⟩
    have hjl : j < l.length := by omega
    obtain ⟨x, hx⟩ : ∃ x, l[j]? = some x := ⟨l[j], List.getElem?_eq_getElem hjl⟩
    obtain ⟨b, o, rfl, hbB, hcell⟩ := h.at_ (by omega)
    obtain ⟨d0, d1⟩ := hcell j x hx
    have HCE := hide hcell; clear hcell
    have h2 := bestTo_bd floor j l l.length
    have hr : comeI floor l = (true, x.1, x.2, priceI floor l j) := by
      unfold comeI
      rw [if_neg ha, hj, Int.toNat_natCast, hx]
      unfold coinsAt
      rw [hx]
      rfl
    have HR := hide hr; clear hr
    rw [hj] at HB1
    clear ha h1 hj hx
    obtain ⟨x1, x2⟩ := x
    simp only at d0 d1 HR
    have hjl' : (j : Int) < (l.length : Int) := by omega
    have d2 := fun W : World => fun hW : Below w.heap.size w W => (hW.cell (p := ⟨b, o + j * 2, none⟩) hbB).trans d0
    have d3 := fun W : World => fun hW : Below w.heap.size w W => (hW.cell (p := ⟨b, o + j * 2 + 1, none⟩) hbB).trans d1
    go_enter Try.func28, Try.ntmps28
    go_wp2_with fail
    refine (HB1.out _ ((Below.refl _ _).alloc (Nat.le_refl _) _)).mono ?_
    rintro e w1 ⟨rfl, hb1⟩
    have hc1 := fun o => (bcell hb1).1 w.heap.size o (by simp)
    have hf1 := fun o => (bcell hb1).2 w.heap.size o (by simp)
    have hz1 : w.heap.size < w1.heap.size := by have := hb1.size; simp at this; omega
    have hbw := ((Below.refl _ w).alloc (Nat.le_refl _) _).trans (hb1.mono (by simp))
    have e2 := d2 _ hbw
    have e3 := d3 _ hbw
    have D2 := hide d2
    have D3 := hide d3
    have g2 := fun ob : Obj => (World.cell?_alloc_lt w1 ob ⟨b, o + j * 2, none⟩ (by show b < _; omega)).trans e2
    have g3 := fun ob : Obj => (World.cell?_alloc_lt w1 ob ⟨b, o + j * 2 + 1, none⟩ (by show b < _; omega)).trans e3
    clear d2 d3 d0 d1
    go_wp2_with fail
    go_region
    go_wp2_with fail
    have hbw2 : Below w.heap.size w ((w1.alloc (.cells #[.bool true, .int .i64 x1, .int .i64 x2, .int .i64 floor] 27)).drew) := (hbw.alloc (by omega) _).drew
    refine (HB2.out j _ hbw2).mono ?_
    change -1 ≤ bestI floor l j ∧ bestI floor l j < _ at h2
    have hpr : priceI floor l j = if 0 ≤ bestI floor l j then coinsAt l (bestI floor l j).toNat else floor := rfl
    rw [hpr] at HR
    clear hpr HB2 HB1
    obtain ⟨m, hm⟩ : ∃ m, m = bestI floor l j := ⟨_, rfl⟩
    rw [← hm] at h2 HR ⊢
    clear hm
    rintro e w3 ⟨rfl, hb3⟩
    have hz3 : w1.heap.size < w3.heap.size := by have := hb3.size; simp at this; omega
    have hc3 := fun o => (bcell hb3).1 w1.heap.size o (by simp)
    have hf3 := fun o => (bcell hb3).2 w1.heap.size o (by simp)
    have hc4 := fun o => (bcell hb3).1 w.heap.size o (by simp; omega)
    have hf4 := fun o => (bcell hb3).2 w.heap.size o (by simp; omega)
    have hbw3 := hbw2.trans (hb3.mono hbw2.size)
    clear e2 e3 g2 g3
    by_cases hm0 : 0 ≤ m
    · obtain ⟨q, rfl⟩ : ∃ q : Nat, m = q := ⟨m.toNat, by omega⟩
      obtain ⟨y, hy⟩ : ∃ y, l[q]? = some y := ⟨l[q], List.getElem?_eq_getElem (by omega)⟩
      have hcy : coinsAt l q = y.2 := by unfold coinsAt; rw [hy]; rfl
      rw [if_pos hm0, Int.toNat_natCast, hcy] at HR
      have d5 := (hbw3.cell (p := ⟨b, o + q * 2 + 1, none⟩) hbB).trans (HCE.out q y hy).2
      have hql : (q : Int) < (l.length : Int) := by omega
      clear hcy hy
      obtain ⟨y1, y2⟩ := y
      simp only at d5 HR
      go_wp2_with fail
      refine bodyPost_ret (v := soldV (true, x1, x2, y2)) (by simp [results, Try.results28, go_sem, soldV, hc1, hz1, hc3, hz3, hc4]) rfl ?_
      refine ⟨by rw [HR.out], ?_⟩
      repeat (refine Below.setCell ?_ (by first | exact Nat.le_refl _ | (show w.heap.size ≤ w1.heap.size; omega)) _)
      exact hbw3
    · rw [if_neg hm0] at HR
      go_wp2_with fail
      refine bodyPost_ret (v := soldV (true, x1, x2, floor)) (by simp [results, Try.results28, go_sem, soldV, hc1, hz1, hc3, hz3, hc4]) rfl ?_
      refine ⟨by rw [HR.out], ?_⟩
      repeat (refine Below.setCell ?_ (by first | exact Nat.le_refl _ | (show w.heap.size ≤ w1.heap.size; omega)) _)
      exact hbw3

/-! ### Sell's closure, IndexFunc and ContainsFunc at it -/
def badB (x : Int × Int) : Bool := decide (x.1 < 0) || !coinsB x.2
set_option maxHeartbeats 1000000 in
theorem bad_any (x : Int × Int) (w : World) : Calls Try.prog 25 #[.agg #[.int .i64 x.1, .int .i64 x.2]] w (ValPost (.bool (badB x)) w) := by
  obtain ⟨x1, x2⟩ := x
  have hB : Below w.heap.size w (w.alloc (.cells #[.int .i64 x1, .int .i64 x2] 33)) := (Below.refl _ _).alloc (Nat.le_refl _) _
  by_cases h : x1 < 0
  · have hb : badB (x1, x2) = true := by simp [badB, h]
    rw [hb]
    go_enter Try.func25, Try.ntmps25
    go_wp2_with (go_at_call 26; refine (coins_any x2 _).mono ?_; rintro e w' ⟨rfl, rfl⟩)
    go_ret
    exact ⟨rfl, hB⟩
  · have hd : decide (x1 < 0) = false := by simpa using h
    have hb : badB (x1, x2) = !coinsB x2 := by simp [badB, hd]
    rw [hb]
    have h' : 0 ≤ x1 := by omega
    generalize hc : coinsB x2 = bb
    have HC : Hid (∀ W, Calls Try.prog 26 #[.int .i64 x2] W fun e w' => e = .returned (.bool bb) ∧ W = w') := hide (fun W => by rw [← hc]; exact coins_any x2 W)
    clear hc
    go_enter Try.func25, Try.ntmps25
    go_wp2_with (go_at_call 26; refine (HC.out _).mono ?_; rintro e w' ⟨rfl, rfl⟩)
    go_ret
    exact ⟨rfl, hB⟩

def idxTo (p : Int × Int → Bool) (l : List (Int × Int)) : Int := match l.findIdx? p with
  | some i => i
  | none => -1
theorem idxTo_hit {p : Int × Int → Bool} {l : List (Int × Int)} {k : Nat} {x : Int × Int} (hx : l[k]? = some x) (hp : p x = true) (hno : ∀ j y, j < k → l[j]? = some y → p y = false) : idxTo p l = k := by
  have : l.findIdx? p = some k := by
    rw [List.findIdx?_eq_some_iff_getElem]
    obtain ⟨hk, rfl⟩ := List.getElem?_eq_some_iff.1 hx
    exact ⟨hk, hp, fun j hj => by simp [hno j l[j] hj (List.getElem?_eq_getElem (by omega))]⟩
  unfold idxTo
  rw [this]
theorem idxTo_miss {p : Int × Int → Bool} {l : List (Int × Int)} (hno : ∀ (j : Nat) y, j < l.length → l[j]? = some y → p y = false) : idxTo p l = -1 := by
  have : l.findIdx? p = none := by
    rw [List.findIdx?_eq_none_iff]
    intro x hx
    obtain ⟨j, hj, rfl⟩ := List.getElem_of_mem hx
    exact hno j _ hj (List.getElem?_eq_getElem hj)
  unfold idxTo
  rw [this]

set_option maxRecDepth 100000 in
set_option maxHeartbeats 2000000 in
theorem index25 (A : Option Addr) (c : Nat) (l : List (Int × Int)) (w : World) (h : Bids w w.heap.size A l) (hl : l.length ≤ 1000000) :
    Calls Try.prog 42 #[.slice A l.length c, .func (.func 25) #[] #[]] w (IntPost (idxTo badB l) w) := by
  have hat := h.at_
  go_enter Try.func42, Try.ntmps42
  go_wp2_with fail
  go_loopw [8] (fun i wr => ∃ k : Nat, k ≤ l.length ∧ i = .int .i64 k ∧ (∀ j y, j < k → l[j]? = some y → badB y = false) ∧ Below w.heap.size w wr) (fun i _ => l.length - (intOf i).toNat)
  case atStart => exact ⟨0, Nat.zero_le _, rfl, fun j y hj => absurd hj (by omega), Below.refl _ _⟩
  case round =>
    obtain ⟨k, hk, rfl, hno, hb⟩ := hrel
    have HN := hide hno; clear hno
    by_cases hlt : k < l.length
    · obtain ⟨b, o, rfl, hbB, hc⟩ := hat (by omega)
      obtain ⟨x, hx⟩ : ∃ x, l[k]? = some x := ⟨l[k], List.getElem?_eq_getElem hlt⟩
      obtain ⟨hc0, hc1⟩ := hc k x hx
      have d0 := (hb.cell (p := ⟨b, o + k * 2, none⟩) hbB).trans hc0
      have d1 := (hb.cell (p := ⟨b, o + k * 2 + 1, none⟩) hbB).trans hc1
      have hz := hb.size
      have HX := hide hx
      have HB := hide hb
      clear hc0 hc1 hc hat hx hb
      have HC : Hid (∀ W, Calls Try.prog 25 #[.agg #[.int .i64 x.1, .int .i64 x.2]] W (ValPost (.bool (badB x)) W)) := hide (fun W => bad_any x W)
      by_cases hp : badB x = true
      · rw [hp] at HC
        have HR := hide (idxTo_hit HX.out hp HN.out)
        clear hp
        go_wp2_with (go_at_call 25; refine (HC.out _).mono ?_; rintro e w' ⟨rfl, hb1⟩)
        go_ret
        refine ⟨by rw [HR.out]; rfl, HB.out.trans (hb1.mono hz)⟩
      · have hp' : badB x = false := by simpa using hp
        rw [hp'] at HC
        have HP := hide hp'
        clear hp hp'
        go_wp2_with (go_at_call 25; refine (HC.out _).mono ?_; rintro e w' ⟨rfl, hb1⟩)
        go_roundw
        case rel =>
          refine ⟨k + 1, by omega, by go_num, fun j y hj hy => ?_, HB.out.trans (hb1.mono hz)⟩
          rcases Nat.lt_or_ge j k with h1 | h1
          · exact HN.out j y h1 hy
          · obtain rfl : j = k := by omega
            rw [HX.out] at hy
            injection hy with hy
            rw [← hy]
            exact HP.out
        case measure => simp [intOf]; omega
    · have : k = l.length := by omega
      subst this
      have HR := hide (idxTo_miss HN.out)
      go_wp2_with fail
      go_ret
      exact ⟨by rw [HR.out]; rfl, hb⟩
end Go.Proofs.Ytnidmoljhopcoaa
