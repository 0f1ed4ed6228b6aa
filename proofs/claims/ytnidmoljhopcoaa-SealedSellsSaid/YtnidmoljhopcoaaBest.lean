/- The walks of sealed.best, sealed.coins: what they compute. -/
import Derived.Test.YtnidmoljhopcoaaRows
import Derived.Test.YtnidmoljhopcoaaBase
import Derived.Outline
import Derived.BigQuiet
import Derived.Deep.RegionLaw
import Derived.Deep.RegionHeld3
namespace Go.Proofs.Ytnidmoljhopcoaa
open Go.RowKit

/-- Bids as they stand in memory: a bidder, coins. -/
def flat (l : List (Int × Int)) : List Value := l.flatMap fun b => [.int .i64 b.1, .int .i64 b.2]
theorem flat_len (l : List (Int × Int)) : (flat l).length = l.length * 2 := by
  induction l with
  | nil => rfl
  | cons b l ih => simp only [flat, List.flatMap_cons, List.length_append, List.length_cons, List.length_nil] at ih ⊢; omega
theorem flat_at : ∀ (l : List (Int × Int)) (k : Nat) (b : Int × Int), l[k]? = some b → (flat l)[k * 2]? = some (.int .i64 b.1) ∧ (flat l)[k * 2 + 1]? = some (.int .i64 b.2)
  | [], k, b, h => by simp at h
  | a :: l, 0, b, h => by simp at h; subst h; exact ⟨rfl, rfl⟩
  | a :: l, k + 1, b, h => by
    have := flat_at l k b (by simpa using h)
    have e : flat (a :: l) = .int .i64 a.1 :: .int .i64 a.2 :: flat l := rfl
    rw [e]
    rw [show (k + 1) * 2 = k * 2 + 1 + 1 from by omega, show k * 2 + 1 + 1 + 1 = (k * 2 + 1) + 1 + 1 from by omega]
    simpa using this
theorem flat_append (l m : List (Int × Int)) : flat (l ++ m) = flat l ++ flat m := by simp [flat]
theorem flat_take (l : List (Int × Int)) (k : Nat) : (flat l).take (k * 2) = flat (l.take k) := by
  induction l generalizing k with
  | nil => simp [flat]
  | cons b l ih =>
    cases k with
    | zero => simp [flat]
    | succ k =>
      have e : flat (b :: l) = .int .i64 b.1 :: .int .i64 b.2 :: flat l := rfl
      have e2 : flat ((b :: l).take (k + 1)) = .int .i64 b.1 :: .int .i64 b.2 :: flat (l.take k) := rfl
      rw [e, e2, show (k + 1) * 2 = k * 2 + 1 + 1 from by omega]
      simp [ih]
theorem flat_drop (l : List (Int × Int)) (k : Nat) : (flat l).drop (k * 2) = flat (l.drop k) := by
  induction l generalizing k with
  | nil => simp [flat]
  | cons b l ih =>
    cases k with
    | zero => simp
    | succ k =>
      have e : flat (b :: l) = .int .i64 b.1 :: .int .i64 b.2 :: flat l := rfl
      rw [e, show (k + 1) * 2 = k * 2 + 1 + 1 from by omega]
      simp [ih]

def Bids (w : World) (B : Nat) (A : Option Addr) (l : List (Int × Int)) : Prop := Reads w B 2 A l.length (flat l)
theorem Bids.at_ {w : World} {B : Nat} {A : Option Addr} {l : List (Int × Int)} (h : Bids w B A l) (hn : 0 < l.length) :
    ∃ b o, A = some ⟨b, o, none⟩ ∧ b < B ∧ ∀ (k : Nat) (x : Int × Int), l[k]? = some x → w.cell? ⟨b, o + k * 2, none⟩ = some (.int .i64 x.1) ∧ w.cell? ⟨b, o + k * 2 + 1, none⟩ = some (.int .i64 x.2) := by
  obtain ⟨b, o, e, hb, hc⟩ := h.2 hn
  refine ⟨b, o, e, hb, fun k x hx => ?_⟩
  obtain ⟨h1, h2⟩ := flat_at l k x hx
  exact ⟨hc _ _ h1, by rw [Nat.add_assoc]; exact hc _ _ h2⟩

/-- What best has found among the first k bids. -/
def coinsAt (l : List (Int × Int)) (k : Nat) : Int := ((l[k]?).getD (0, 0)).2
def bstep (floor but : Int) (l : List (Int × Int)) (at_ : Int) (k : Nat) : Int :=
  if (k : Int) ≠ but ∧ floor ≤ coinsAt l k ∧ (at_ < 0 ∨ coinsAt l at_.toNat < coinsAt l k) then k else at_
def bestTo (floor but : Int) (l : List (Int × Int)) : Nat → Int
  | 0 => -1
  | k + 1 => bstep floor but l (bestTo floor but l k) k
def bestI (floor : Int) (l : List (Int × Int)) (but : Int) : Int := bestTo floor but l l.length
theorem bestTo_bd (floor but : Int) (l : List (Int × Int)) : ∀ k, -1 ≤ bestTo floor but l k ∧ bestTo floor but l k < k
  | 0 => by simp [bestTo]
  | k + 1 => by
    have := bestTo_bd floor but l k
    simp only [bestTo, bstep]
    split <;> omega

def coinsB (c : Int) : Bool := decide (0 ≤ c) && decide (c ≤ 1099511627776)
set_option maxHeartbeats 400000 in
theorem coins_any (c : Int) (w : World) : Calls Try.prog 26 #[.int .i64 c] w fun e w' => e = .returned (.bool (coinsB c)) ∧ w = w' := by
  by_cases h : 0 ≤ c
  · go_enter Try.func26, Try.ntmps26
    go_wp2
    go_ret
    simp [coinsB, h]
  · go_enter Try.func26, Try.ntmps26
    go_wp2
    go_ret
    have hd : decide (0 ≤ c) = false := by simpa using h
    simp [coinsB, hd]

def IntPost (n : Int) (w : World) (e : Ending) (w' : World) : Prop := e = .returned (.int .i64 n) ∧ Below w.heap.size w w'
set_option maxRecDepth 100000 in
set_option maxHeartbeats 2000000 in
theorem best_any (floor but : Int) (A : Option Addr) (c : Nat) (l : List (Int × Int)) (w : World) (h : Bids w w.heap.size A l) (hl : l.length ≤ 1000000) :
    Calls Try.prog 43 #[.int .i64 floor, .slice A l.length c, .int .i64 but] w (IntPost (bestI floor l but) w) := by
  have hat := h.at_
  go_enter Try.func43, Try.ntmps43
  go_wp2_with fail
  go_loopw [7, 12] (fun t i wr => ∃ k : Nat, k ≤ l.length ∧ i = .int .i64 k ∧ t = .int .i64 (bestTo floor but l k) ∧ Below w.heap.size w wr) (fun _ i _ => l.length - (intOf i).toNat)
  case atStart => exact ⟨0, Nat.zero_le _, rfl, rfl, Below.refl _ _⟩
  case round =>
    obtain ⟨k, hk, rfl, rfl, hb⟩ := hrel
    by_cases hlt : k < l.length
    · obtain ⟨b, o, rfl, hbB, hc⟩ := hat (by omega)
      obtain ⟨x, hx⟩ : ∃ x, l[k]? = some x := ⟨l[k], List.getElem?_eq_getElem hlt⟩
      obtain ⟨hc0, hc1⟩ := hc k x hx
      have d0 := (hb.cell (p := ⟨b, o + k * 2, none⟩) hbB).trans hc0
      have d1 := (hb.cell (p := ⟨b, o + k * 2 + 1, none⟩) hbB).trans hc1
      have hz := hb.size
      clear hc0 hc1
      have hbd := bestTo_bd floor but l k
      obtain ⟨t, ht⟩ : ∃ t, t = bestTo floor but l k := ⟨_, rfl⟩
      have hstep : ∀ r, bstep floor but l t k = r → bestTo floor but l (k + 1) = r := fun r hr => by rw [← hr, ht]; rfl
      have HS := hide hstep; clear hstep
      rw [← ht] at hbd ⊢
      have HT := hide ht; clear ht
      have hcx : coinsAt l k = x.2 := by unfold coinsAt; rw [hx]; rfl
      have HCX := hide hcx; clear hcx
      have HX := hide hx; clear hx
      obtain ⟨x1, x2⟩ := x
      simp only at d0 d1
      have hbs : b < wr.heap.size := by omega
      have HC := hide hc; clear hc
      have HB := hide hb; clear hb
      by_cases h1 : (k : Int) = but
      · have h1' : ((k : Int) != but) = false := by simp [h1]
        have HR := hide (HS.out t (by unfold bstep; rw [if_neg (fun hh => hh.1 h1)]))
        clear h1
        go_wp2_with fail
        go_quiet (fail)
        go_wp2
        go_roundw
        case rel => exact ⟨k + 1, by omega, by go_num, by rw [HR.out], below_drewN (HB.out.alloc hz _) _⟩
        case measure => simp [intOf]; omega
      · have h1' : ((k : Int) != but) = true := by simp [h1]
        by_cases h2 : floor ≤ x2
        · by_cases h3 : t < 0
          · have HR := hide (HS.out k (by unfold bstep; rw [HCX.out, if_pos ⟨h1, h2, .inl h3⟩]))
            clear h1
            go_wp2_with fail
            go_quiet (fail)
            go_wp2
            go_roundw
            case rel => exact ⟨k + 1, by omega, by go_num, by rw [HR.out], below_drewN (HB.out.alloc hz _) _⟩
            case measure => simp [intOf]; omega
          · obtain ⟨j, rfl⟩ : ∃ j : Nat, t = j := ⟨t.toNat, by omega⟩
            obtain ⟨y, hy⟩ : ∃ y, l[j]? = some y := ⟨l[j], List.getElem?_eq_getElem (by omega)⟩
            have hcy : coinsAt l j = y.2 := by unfold coinsAt; rw [hy]; rfl
            have HCY := hide hcy; clear hcy
            obtain ⟨_, e1⟩ := HC.out j y hy
            have e2 := (HB.out.cell (p := ⟨b, o + j * 2 + 1, none⟩) hbB).trans e1
            clear e1 hy
            obtain ⟨y1, y2⟩ := y
            simp only at e2
            have e3 := fun ob : Obj => (World.cell?_alloc_lt wr ob ⟨b, o + j * 2 + 1, none⟩ hbs).trans e2
            have h3' : decide ((j : Int) < 0) = false := by simp
            have hjl : (j : Int) < (l.length : Int) := by omega
            clear h3
            by_cases h4 : y2 < x2
            · have HR := hide (HS.out k (by unfold bstep; rw [HCX.out, if_pos ⟨h1, h2, .inr (by rw [Int.toNat_natCast, HCY.out]; exact h4)⟩]))
              clear h1
              go_wp2_with fail
              go_quiet (fail)
              go_wp2
              go_roundw
              case rel => exact ⟨k + 1, by omega, by go_num, by rw [HR.out], below_drewN (HB.out.alloc hz _) _⟩
              case measure => simp [intOf]; omega
            · have HR := hide (HS.out j (by unfold bstep; rw [HCX.out, if_neg (by rw [Int.toNat_natCast, HCY.out]; omega)]))
              clear h1
              go_wp2_with fail
              go_quiet (fail)
              go_wp2
              go_roundw
              case rel => exact ⟨k + 1, by omega, by go_num, by rw [HR.out], below_drewN (HB.out.alloc hz _) _⟩
              case measure => simp [intOf]; omega
        · have h2' : decide (floor ≤ x2) = false := by simpa using h2
          have HR := hide (HS.out t (by unfold bstep; rw [HCX.out, if_neg (fun hh => h2 hh.2.1)]))
          clear h1
          go_wp2_with fail
          go_quiet (fail)
          go_wp2
          go_roundw
          case rel => exact ⟨k + 1, by omega, by go_num, by rw [HR.out], below_drewN (HB.out.alloc hz _) _⟩
          case measure => simp [intOf]; omega
    · have : k = l.length := by omega
      subst this
      go_wp2_with fail
      go_ret
      exact ⟨rfl, hb⟩
end Go.Proofs.Ytnidmoljhopcoaa
