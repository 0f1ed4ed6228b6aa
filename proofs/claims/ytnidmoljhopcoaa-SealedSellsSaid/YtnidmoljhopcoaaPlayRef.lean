/- The walks of the document's boxes: Find, Drop, Bid, Come. -/
import Derived.Test.YtnidmoljhopcoaaPlayOwn
namespace Go.Proofs.Ytnidmoljhopcoaa
open Go.RowKit

set_option maxHeartbeats 400000 in
theorem are_any (c : Int) (w : World) : Calls Try.prog 11 #[.int .i64 c] w fun e w' => e = .returned (.bool (coinsB c)) ∧ w = w' := by
  by_cases h : 0 ≤ c
  · go_enter Try.func11, Try.ntmps11
    go_wp2
    go_ret
    simp [coinsB, h]
  · go_enter Try.func11, Try.ntmps11
    go_wp2
    go_ret
    have hd : decide (0 ≤ c) = false := by simpa using h
    simp [coinsB, hd]

/-- A box of the document's in memory. -/
structure RefOf (w : World) (B r : Nat) (v : Value) (floor : Int) (l : List (Int × Int)) : Prop where
  blk : w.heap[r]? = some (.cells #[.int .i64 floor, v] 49 (0, 0))
  row : w.ownsRow B 33 2 v l.length (flat l)
  base : B ≤ r
section
variable {w w' : World} {B r : Nat} {v : Value} {floor : Int} {l : List (Int × Int)} {p : Nat → Prop}
theorem RefOf.cell (h : RefOf w B r v floor l) (i : Nat) : w.cell? ⟨r, i, none⟩ = (#[.int .i64 floor, v] : Array Value)[i]? := cell_of_row w r i _ 49 (0, 0) h.blk
theorem RefOf.below (h : RefOf w B r v floor l) (hb : Below w.heap.size w w') : RefOf w' B r v floor l :=
  ⟨(hb.block r (lt_of_block h.blk)).trans h.blk, own_below h.row hb (Nat.le_refl _), h.base⟩
theorem RefOf.turns (h : RefOf w B r v floor l) (ht : Turns p w w') (hr : ¬ p r) (hv : ∀ k, v.ownBlock = some k → ¬ p k) : RefOf w' B r v floor l :=
  ⟨(ht.block r (lt_of_block h.blk) hr).trans h.blk, ht.own h.row hv, h.base⟩
theorem BoxOf.turns {q : Nat} (h : BoxOf w B q v floor l) (ht : Turns p w w') (hr : ¬ p q) (hv : ∀ k, v.ownBlock = some k → ¬ p k) : BoxOf w' B q v floor l :=
  ⟨(ht.block q (lt_of_block h.blk) hr).trans h.blk, ht.own h.row hv, h.base⟩
end

set_option maxRecDepth 100000 in
set_option maxHeartbeats 2000000 in
theorem reffind_any (B r : Nat) (v : Value) (floor bidder : Int) (l : List (Int × Int)) (w : World) (h : RefOf w B r v floor l) (hl : l.length ≤ 1000000) :
    Calls Try.prog 33 #[.pointer (some ⟨r, 0, none⟩), .int .i64 bidder] w (IntPost (idxTo (isB bidder) l) w) := by
  obtain ⟨A, c, rfl, _⟩ := own_sh h.row
  have hat := Bids.at_ (Reads.of_own h.row : Bids w w.heap.size A l)
  have c1 := h.cell 1
  simp at c1
  have hlt := lt_of_block h.blk
  clear h
  go_enter Try.func33, Try.ntmps33
  go_wp2_with fail
  go_loopw [5] (fun i wr => ∃ k : Nat, k ≤ l.length ∧ i = .int .i64 k ∧ (∀ j y, j < k → l[j]? = some y → (isB bidder) y = false) ∧ Below w.heap.size w wr) (fun i _ => l.length - (intOf i).toNat)
  case atStart => exact ⟨0, Nat.zero_le _, rfl, fun j y hj => absurd hj (by omega), Below.refl _ _⟩
  case round =>
    obtain ⟨k, hk, rfl, hno, hb⟩ := hrel
    have HN := hide hno; clear hno
    have d1 := (hb.cell (p := ⟨r, 1, none⟩) hlt).trans c1
    by_cases hlk : k < l.length
    · obtain ⟨b, o, rfl, hbB, hc⟩ := hat (by omega)
      obtain ⟨x, hx⟩ : ∃ x, l[k]? = some x := ⟨l[k], List.getElem?_eq_getElem hlk⟩
      obtain ⟨hc0, _⟩ := hc k x hx
      have e0 := (hb.cell (p := ⟨b, o + k * 2, none⟩) hbB).trans hc0
      have HX := hide hx
      have HB := hide hb
      clear hc0 hc hat hx hb
      obtain ⟨x1, x2⟩ := x
      simp only at e0
      by_cases hp : x1 = bidder
      · subst hp
        have HR := hide (idxTo_hit HX.out (by simp [isB]) HN.out)
        go_wp2_with fail
        go_ret
        exact ⟨by rw [HR.out]; rfl, HB.out⟩
      · have hp1 : (x1 == bidder) = false := by simpa using hp
        have HP : Hid (isB bidder (x1, x2) = false) := hide hp1
        go_wp2_with fail
        go_roundw
        case rel =>
          refine ⟨k + 1, by omega, by go_num, fun j y hj hy => ?_, HB.out⟩
          rcases Nat.lt_or_ge j k with h1 | h1
          · exact HN.out j y h1 hy
          · obtain rfl : j = k := by omega
            rw [HX.out] at hy
            injection hy with hy
            rw [← hy]
            exact HP.out
        case measure => simp [intOf]; omega
    · have : k = l.length := by omega
      subst this
      have HR := hide (idxTo_miss HN.out)
      go_wp2_with fail
      go_ret
      exact ⟨by rw [HR.out]; rfl, hb⟩

set_option maxRecDepth 100000 in
set_option maxHeartbeats 2000000 in
theorem refbest_any (floor but : Int) (A : Option Addr) (c : Nat) (l : List (Int × Int)) (w : World) (h : Bids w w.heap.size A l) (hl : l.length ≤ 1000000) :
    Calls Try.prog 45 #[.int .i64 floor, .slice A l.length c, .int .i64 but] w (IntPost (bestI floor l but) w) := by
  have hat := h.at_
  go_enter Try.func45, Try.ntmps45
  go_wp2_with fail
  go_loopw [7, 8] (fun t i wr => ∃ k : Nat, k ≤ l.length ∧ i = .int .i64 k ∧ t = .int .i64 (bestTo floor but l k) ∧ Below w.heap.size w wr) (fun _ i _ => l.length - (intOf i).toNat)
  case atStart => exact ⟨0, Nat.zero_le _, rfl, rfl, Below.refl _ _⟩
  case round =>
    obtain ⟨k, hk, rfl, rfl, hb⟩ := hrel
    by_cases hlt : k < l.length
    · obtain ⟨b, o, rfl, hbB, hc⟩ := hat (by omega)
      obtain ⟨x, hx⟩ : ∃ x, l[k]? = some x := ⟨l[k], List.getElem?_eq_getElem hlt⟩
      obtain ⟨hc0, hc1⟩ := hc k x hx
      have d0 := (hb.cell (p := ⟨b, o + k * 2, none⟩) hbB).trans hc0
      have d1 := (hb.cell (p := ⟨b, o + k * 2 + 1, none⟩) hbB).trans hc1
      have hz := hb.size
      clear hc0 hc1
      have hbd := bestTo_bd floor but l k
      obtain ⟨t, ht⟩ : ∃ t, t = bestTo floor but l k := ⟨_, rfl⟩
      have hstep : ∀ r, bstep floor but l t k = r → bestTo floor but l (k + 1) = r := fun r hr => by rw [← hr, ht]; rfl
      have HS := hide hstep; clear hstep
      rw [← ht] at hbd ⊢
      have HT := hide ht; clear ht
      have hcx : coinsAt l k = x.2 := by unfold coinsAt; rw [hx]; rfl
      have HCX := hide hcx; clear hcx
      have HX := hide hx; clear hx
      obtain ⟨x1, x2⟩ := x
      simp only at d0 d1
      have hbs : b < wr.heap.size := by omega
      have HC := hide hc; clear hc
      have HB := hide hb; clear hb
      by_cases h1 : (k : Int) = but
      · have h1' : ((k : Int) != but) = false := by simp [h1]
        have HR := hide (HS.out t (by unfold bstep; rw [if_neg (fun hh => hh.1 h1)]))
        clear h1
        go_wp2_with fail
        go_quiet (fail)
        go_wp2
        go_roundw
        case rel => exact ⟨k + 1, by omega, by go_num, by rw [HR.out], below_drewN HB.out _⟩
        case measure => simp [intOf]; omega
      · have h1' : ((k : Int) != but) = true := by simp [h1]
        by_cases h2 : floor ≤ x2
        · by_cases h3 : t < 0
          · have HR := hide (HS.out k (by unfold bstep; rw [HCX.out, if_pos ⟨h1, h2, .inl h3⟩]))
            clear h1
            go_wp2_with fail
            go_quiet (fail)
            go_wp2
            go_roundw
            case rel => exact ⟨k + 1, by omega, by go_num, by rw [HR.out], below_drewN HB.out _⟩
            case measure => simp [intOf]; omega
          · obtain ⟨j, rfl⟩ : ∃ j : Nat, t = j := ⟨t.toNat, by omega⟩
            obtain ⟨y, hy⟩ : ∃ y, l[j]? = some y := ⟨l[j], List.getElem?_eq_getElem (by omega)⟩
            have hcy : coinsAt l j = y.2 := by unfold coinsAt; rw [hy]; rfl
            have HCY := hide hcy; clear hcy
            obtain ⟨_, e1⟩ := HC.out j y hy
            have e2 := (HB.out.cell (p := ⟨b, o + j * 2 + 1, none⟩) hbB).trans e1
            clear e1 hy
            obtain ⟨y1, y2⟩ := y
            simp only at e2
            have h3' : decide ((j : Int) < 0) = false := by simp
            have hjl : (j : Int) < (l.length : Int) := by omega
            clear h3
            by_cases h4 : y2 < x2
            · have HR := hide (HS.out k (by unfold bstep; rw [HCX.out, if_pos ⟨h1, h2, .inr (by rw [Int.toNat_natCast, HCY.out]; exact h4)⟩]))
              clear h1
              go_wp2_with fail
              go_quiet (fail)
              go_wp2
              go_roundw
              case rel => exact ⟨k + 1, by omega, by go_num, by rw [HR.out], below_drewN HB.out _⟩
              case measure => simp [intOf]; omega
            · have HR := hide (HS.out j (by unfold bstep; rw [HCX.out, if_neg (by rw [Int.toNat_natCast, HCY.out]; omega)]))
              clear h1
              go_wp2_with fail
              go_quiet (fail)
              go_wp2
              go_roundw
              case rel => exact ⟨k + 1, by omega, by go_num, by rw [HR.out], below_drewN HB.out _⟩
              case measure => simp [intOf]; omega
        · have h2' : decide (floor ≤ x2) = false := by simpa using h2
          have HR := hide (HS.out t (by unfold bstep; rw [HCX.out, if_neg (fun hh => h2 hh.2.1)]))
          clear h1
          go_wp2_with fail
          go_quiet (fail)
          go_wp2
          go_roundw
          case rel => exact ⟨k + 1, by omega, by go_num, by rw [HR.out], below_drewN HB.out _⟩
          case measure => simp [intOf]; omega
    · have : k = l.length := by omega
      subst this
      go_wp2_with fail
      go_ret
      exact ⟨rfl, hb⟩

set_option maxRecDepth 100000 in
set_option maxHeartbeats 2000000 in
theorem refcome_any (floor : Int) (A : Option Addr) (c : Nat) (l : List (Int × Int)) (w : World) (h : Bids w w.heap.size A l) (hl : l.length ≤ 1000000) :
    Calls Try.prog 34 #[.int .i64 floor, .slice A l.length c] w (ValPost (soldV (comeI floor l)) w) := by
  have h1 := bestTo_bd floor (-1) l l.length
  have HB1 : Hid (∀ W, Below w.heap.size w W → Calls Try.prog 45 #[.int .i64 floor, .slice A l.length c, .int .i64 (-1)] W (IntPost (bestI floor l (-1)) W)) :=
    hide (fun W hb => refbest_any floor (-1) A c l W ((h.below hb).more hb.size) hl)
  have HB2 : Hid (∀ n W, Below w.heap.size w W → Calls Try.prog 45 #[.int .i64 floor, .slice A l.length c, .int .i64 n] W (IntPost (bestI floor l n) W)) :=
    hide (fun n W hb => refbest_any floor n A c l W ((h.below hb).more hb.size) hl)
  by_cases ha : bestI floor l (-1) < 0
  · have hr : comeI floor l = noSold := by unfold comeI; rw [if_pos ha]
    have HR := hide hr; clear hr
    change -1 ≤ bestI floor l (-1) ∧ _ at h1
    generalize bestI floor l (-1) = t at *
    clear h1
    go_enter Try.func34, Try.ntmps34
    go_wp2_with fail
    refine (HB1.out _ ((Below.refl _ _).alloc (Nat.le_refl _) _)).mono ?_
    rintro e w1 ⟨rfl, hb1⟩
    have hc1 := fun o => (bcell hb1).1 w.heap.size o (by simp)
    have hf1 := fun o => (bcell hb1).2 w.heap.size o (by simp)
    have hz1 : w.heap.size < w1.heap.size := by have := hb1.size; simp at this; omega
    go_wp2_with fail
    refine bodyPost_ret (v := soldV noSold) (by simp [results, Try.results34, go_sem, soldV, noSold, hc1, hz1]) rfl ?_
    refine ⟨by rw [HR.out], ?_⟩
    exact ((((((Below.refl _ _).alloc (Nat.le_refl _) _).trans (hb1.mono (by simp))).setCell (Nat.le_refl _) _).setCell (Nat.le_refl _) _).setCell (Nat.le_refl _) _).setCell (Nat.le_refl _) _
  · change -1 ≤ bestI floor l (-1) ∧ bestI floor l (-1) < _ at h1
    obtain ⟨j, hj⟩ : ∃ j : Nat, bestI floor l (-1) = j := ⟨(bestI floor l (-1)).toNat, by omega⟩
    have hjl : j < l.length := by omega
    obtain ⟨x, hx⟩ : ∃ x, l[j]? = some x := ⟨l[j], List.getElem?_eq_getElem hjl⟩
    obtain ⟨b, o, rfl, hbB, hcell⟩ := h.at_ (by omega)
    obtain ⟨d0, d1⟩ := hcell j x hx
    have HCE := hide hcell; clear hcell
    have h2 := bestTo_bd floor j l l.length
    have hr : comeI floor l = (true, x.1, x.2, priceI floor l j) := by
      unfold comeI
      rw [if_neg ha, hj, Int.toNat_natCast, hx]
      unfold coinsAt
      rw [hx]
      rfl
    have HR := hide hr; clear hr
    rw [hj] at HB1
    clear ha h1 hj hx
    obtain ⟨x1, x2⟩ := x
    simp only at d0 d1 HR
    have hjl' : (j : Int) < (l.length : Int) := by omega
    have d2 := fun W : World => fun hW : Below w.heap.size w W => (hW.cell (p := ⟨b, o + j * 2, none⟩) hbB).trans d0
    have d3 := fun W : World => fun hW : Below w.heap.size w W => (hW.cell (p := ⟨b, o + j * 2 + 1, none⟩) hbB).trans d1
    go_enter Try.func34, Try.ntmps34
    go_wp2_with fail
    refine (HB1.out _ ((Below.refl _ _).alloc (Nat.le_refl _) _)).mono ?_
    rintro e w1 ⟨rfl, hb1⟩
    have hc1 := fun o => (bcell hb1).1 w.heap.size o (by simp)
    have hf1 := fun o => (bcell hb1).2 w.heap.size o (by simp)
    have hz1 : w.heap.size < w1.heap.size := by have := hb1.size; simp at this; omega
    have hbw := ((Below.refl _ w).alloc (Nat.le_refl _) _).trans (hb1.mono (by simp))
    have e2 := d2 _ hbw
    have e3 := d3 _ hbw
    have D2 := hide d2
    have D3 := hide d3
    have g2 := fun ob : Obj => (World.cell?_alloc_lt w1 ob ⟨b, o + j * 2, none⟩ (by show b < _; omega)).trans e2
    have g3 := fun ob : Obj => (World.cell?_alloc_lt w1 ob ⟨b, o + j * 2 + 1, none⟩ (by show b < _; omega)).trans e3
    clear d2 d3 d0 d1
    go_wp2_with fail
    go_region
    go_wp2_with fail
    have hbw2 : Below w.heap.size w ((w1.alloc (.cells #[.bool true, .int .i64 x1, .int .i64 x2, .int .i64 floor] 27)).drew) := (hbw.alloc (by omega) _).drew
    refine (HB2.out j _ hbw2).mono ?_
    change -1 ≤ bestI floor l j ∧ bestI floor l j < _ at h2
    have hpr : priceI floor l j = if 0 ≤ bestI floor l j then coinsAt l (bestI floor l j).toNat else floor := rfl
    rw [hpr] at HR
    clear hpr HB2 HB1
    obtain ⟨m, hm⟩ : ∃ m, m = bestI floor l j := ⟨_, rfl⟩
    rw [← hm] at h2 HR ⊢
    clear hm
    rintro e w3 ⟨rfl, hb3⟩
    have hz3 : w1.heap.size < w3.heap.size := by have := hb3.size; simp at this; omega
    have hc3 := fun o => (bcell hb3).1 w1.heap.size o (by simp)
    have hf3 := fun o => (bcell hb3).2 w1.heap.size o (by simp)
    have hc4 := fun o => (bcell hb3).1 w.heap.size o (by simp; omega)
    have hf4 := fun o => (bcell hb3).2 w.heap.size o (by simp; omega)
    have hbw3 := hbw2.trans (hb3.mono hbw2.size)
    clear e2 e3 g2 g3
    by_cases hm0 : 0 ≤ m
    · obtain ⟨q, rfl⟩ : ∃ q : Nat, m = q := ⟨m.toNat, by omega⟩
      obtain ⟨y, hy⟩ : ∃ y, l[q]? = some y := ⟨l[q], List.getElem?_eq_getElem (by omega)⟩
      have hcy : coinsAt l q = y.2 := by unfold coinsAt; rw [hy]; rfl
      rw [if_pos hm0, Int.toNat_natCast, hcy] at HR
      have d5 := (hbw3.cell (p := ⟨b, o + q * 2 + 1, none⟩) hbB).trans (HCE.out q y hy).2
      have hql : (q : Int) < (l.length : Int) := by omega
      clear hcy hy
      obtain ⟨y1, y2⟩ := y
      simp only at d5 HR
      go_wp2_with fail
      refine bodyPost_ret (v := soldV (true, x1, x2, y2)) (by simp [results, Try.results34, go_sem, soldV, hc1, hz1, hc3, hz3, hc4]) rfl ?_
      refine ⟨by rw [HR.out], ?_⟩
      repeat (refine Below.setCell ?_ (by first | exact Nat.le_refl _ | (show w.heap.size ≤ w1.heap.size; omega)) _)
      exact hbw3
    · rw [if_neg hm0] at HR
      go_wp2_with fail
      refine bodyPost_ret (v := soldV (true, x1, x2, floor)) (by simp [results, Try.results34, go_sem, soldV, hc1, hz1, hc3, hz3, hc4]) rfl ?_
      refine ⟨by rw [HR.out], ?_⟩
      repeat (refine Below.setCell ?_ (by first | exact Nat.le_refl _ | (show w.heap.size ≤ w1.heap.size; omega)) _)
      exact hbw3

/-! ### Sell's closure, IndexFunc and ContainsFunc at it -/

/-- What a call on a box of the document's leaves. -/
def RefP (B r : Nat) (v : Value) (floor : Int) (l' : List (Int × Int)) (code : Int) (w : World) (e : Ending) (w' : World) : Prop :=
  e = .returned (.int .i64 code) ∧ ∃ v', RefOf w' B r v' floor l' ∧ Turns (fun k => k = r) w w' ∧ (v'.ownBlock = v.ownBlock ∨ ∀ g, v'.ownBlock = some g → w.heap.size ≤ g)
theorem RefP.of_below {B r : Nat} {v : Value} {floor code : Int} {l : List (Int × Int)} {w w' : World} (h : RefOf w B r v floor l) (hb : Below w.heap.size w w') : RefP B r v floor l code w (.returned (.int .i64 code)) w' :=
  ⟨rfl, v, h.below hb, Turns.of_below hb, .inl rfl⟩

set_option maxRecDepth 100000 in
set_option maxHeartbeats 2000000 in
theorem refdrop_any (B r : Nat) (v : Value) (floor bidder : Int) (l : List (Int × Int)) (w : World) (h : RefOf w B r v floor l) (hB : B ≤ w.heap.size) (hl : l.length ≤ 1000000) :
    Calls Try.prog 31 #[.pointer (some ⟨r, 0, none⟩), .int .i64 bidder] w (RefP B r v floor (dropL bidder l) (dropC bidder l) w) := by
  have HF := hide (reffind_any B r _ floor bidder l w h hl)
  have hbd := idxTo_bd (isB bidder) l
  have HR := hide h
  have hlt := lt_of_block h.blk
  unfold dropL dropC
  by_cases hi : idxTo (isB bidder) l < 0
  · rw [if_pos hi, if_pos hi]
    generalize idxTo (isB bidder) l = i at *
    clear h hbd
    go_enter Try.func31, Try.ntmps31
    go_wp2_with fail
    refine (HF.out).mono ?_
    rintro e w1 ⟨rfl, hb1⟩
    go_wp2_with fail
    go_ret
    exact RefP.of_below HR.out hb1
  · rw [if_neg hi, if_neg hi]
    obtain ⟨i, hie⟩ : ∃ i : Nat, idxTo (isB bidder) l = i := ⟨(idxTo (isB bidder) l).toNat, by omega⟩
    rw [hie] at HF hbd ⊢
    rw [Int.toNat_natCast]
    have hil : i < l.length := by omega
    obtain ⟨g, c, rfl, _⟩ := h.row.form (by omega)
    have hcap : l.length ≤ c := by obtain ⟨_, _, e, hc⟩ := own_sh h.row; injection e with _ _ e; omega
    have hR := Reads.of_own h.row
    have c1 := h.cell 1
    simp at c1
    clear h hi hie hbd
    obtain ⟨A', hA'⟩ : ∃ A' : Option Addr, A' = if c = i + 1 then some ⟨g, 0, none⟩ else some ⟨g, (i + 1) * 2, none⟩ := ⟨_, rfl⟩
    have hRt : Reads w w.heap.size 2 A' (l.length - (i + 1)) (flat (l.drop (i + 1))) := by
      have h5 := Reads.cut hR (k := i + 1) (cap := c) (by omega) hcap
      rw [flat_drop] at h5
      rw [hA']
      simpa [Addr.add] using h5
    have hRf : Reads w w.heap.size 2 (some ⟨g, 0, none⟩) i (flat (l.take i)) := by
      have h5 := Reads.front hR (k := i) (by omega)
      rwa [flat_take] at h5
    have HRT : Hid (∀ W, Below w.heap.size w W → Reads W w.heap.size 2 A' (l.length - (i + 1)) (flat (l.drop (i + 1)))) := hide (fun W hW => hRt.below hW)
    have HRF : Hid (∀ W, Below w.heap.size w W → Reads W w.heap.size 2 (some ⟨g, 0, none⟩) i (flat (l.take i))) := hide (fun W hW => hRf.below hW)
    have HCX : Hid (∀ W, Below w.heap.size w W → W.cell? ⟨r, 1, none⟩ = some (.slice (some ⟨g, 0, none⟩) l.length c)) := hide (fun W hW => (hW.cell (p := ⟨r, 1, none⟩) hlt).trans c1)
    have hAx := hA'.symm
    have hI0 : (0 : Int) ≤ (i : Int) + 1 := by omega
    have hIL : (i : Int) ≤ (l.length : Int) := by omega
    have hIC : (i : Int) ≤ (c : Int) := by omega
    have hI1 : (i : Int) + 1 ≤ (l.length : Int) := by omega
    have hLC : (l.length : Int) ≤ (c : Int) := by omega
    have hwi : IntKind.i64.wrap ((i : Int) + 1) = (i : Int) + 1 := Go.IntWalk.i64_in _ (by omega)
    have G1 : Hid (0 + i ≤ maxLen) := hide (by unfold maxLen; omega)
    have G2 : Hid ((0 + i) * 16 ≤ 140737488355328) := hide (by omega)
    have G3 : Hid (i + (l.length - (i + 1)) ≤ maxLen) := hide (by unfold maxLen; omega)
    have G4 : Hid ((i + (l.length - (i + 1))) * 16 ≤ 140737488355328) := hide (by omega)
    clear hRt hRf hR c1 hA'
    go_enter Try.func31, Try.ntmps31
    go_wp2_with fail
    refine (HF.out).mono ?_
    rintro e w1 ⟨rfl, hb1⟩
    have d1 := HCX.out w1 hb1
    have HB1 := hide hb1
    clear hb1
    go_wp2_with (first | (at_builtin; refine wpList_append_any rfl (.tmp 12) (.tmp 18) 22 rfl w1.heap.size 33 _ 2 16 info33 Try.underlying22 rfl (by decide) _ 0 [] rfl (World.ownsRow_nil _ _ _ _) w.heap.size (some ⟨g, 0, none⟩) i c (flat (l.take i)) rfl (HRF.out w1 HB1.out) (flat_one _) G1.out G2.out (Nat.le_refl _) ?_; intro v2 w2 hown2 hg2 _; rw [Nat.zero_add, List.nil_append] at hown2; obtain ⟨A2, c2, hv2, _⟩ := own_sh hown2; subst hv2; have HO2 := hide hown2; have HB2 : Hid (Below w.heap.size w w2) := hide (HB1.out.grown hg2 HB1.out.size (fun j hj => by cases hj)); have HZ2 := hide hg2.size; have d2 := HCX.out w2 HB2.out; have hp2 := (HB2.out.block r hlt).trans HR.out.blk; have f2 : w2.frozen? ⟨r, 1, none⟩ = false := (by simp [World.frozen?, hp2]); clear hown2 hg2 d1 hp2) | (at_builtin; refine wpList_append_any rfl (.tmp 21) (.tmp 28) 22 rfl w1.heap.size 33 _ 2 16 info33 Try.underlying22 rfl (by decide) _ i (flat (l.take i)) rfl HO2.out w.heap.size A' (l.length - (i + 1)) (c - (i + 1)) (flat (l.drop (i + 1))) rfl (HRT.out w2 HB2.out) (flat_one _) G3.out G4.out HZ2.out ?_; intro v9 w9 hown9 hg9 _; obtain ⟨A9, c9, hv9, _⟩ := own_sh hown9; subst hv9; have HO9 := hide hown9; have HB9 : Hid (Below w.heap.size w w9) := hide (HB2.out.grown hg9 HB2.out.size (fun j hj => Nat.le_trans HB1.out.size (HO2.out.lt j hj).1)); have HP9 : Hid (w9.heap[r]? = some (.cells #[.int .i64 floor, .slice (some ⟨g, 0, none⟩) l.length c] 49 (0, 0))) := hide ((HB9.out.block r hlt).trans HR.out.blk); have f9 : w9.frozen? ⟨r, 1, none⟩ = false := (by simp [World.frozen?, HP9.out]); have d9 := HCX.out w9 HB9.out; clear hown9 hg9 d2 f2))
    go_ret
    have hlen : (l.take i ++ l.drop (i + 1)).length = i + (l.length - (i + 1)) := by simp; omega
    have np := own_ne HO9.out HP9.out (by simp)
    refine ⟨rfl, _, ⟨setCell_block HP9.out 1 _, ?_, HR.out.base⟩, ?_, .inr (fun k hk => Nat.le_trans HB1.out.size (HO9.out.lt k hk).1)⟩
    · rw [hlen, flat_append]
      exact own_base (ownsRow_setCell_other HO9.out (a := ⟨r, 1, none⟩) np _) (Nat.le_trans hB HB1.out.size)
    · exact (Turns.of_below HB9.out).next (Turns.of_set w9 ⟨r, 1, none⟩ _) (fun k _ e => e)

set_option maxRecDepth 100000 in
set_option maxHeartbeats 2000000 in
theorem refbid_any (B r : Nat) (v : Value) (floor bidder c : Int) (l : List (Int × Int)) (w : World) (h : RefOf w B r v floor l) (hB : B ≤ w.heap.size) (hl : l.length ≤ 100000) :
    Calls Try.prog 29 #[.pointer (some ⟨r, 0, none⟩), .int .i64 bidder, .int .i64 c] w (RefP B r v floor (bidL floor bidder c l) (bidC floor bidder c) w) := by
  have c0 := h.cell 0
  simp at c0
  have HC := hide (fun W => are_any c W)
  have HR := hide h
  have HD := hide (refdrop_any B r _ floor bidder l w h hB (by omega))
  have HDL := hide (dropL_len bidder l)
  have HV : Hid (∀ k, v.ownBlock = some k → B ≤ k) := hide (fun k hk => (h.row.lt k hk).1)
  clear h
  rcases Int.lt_or_le bidder 0 with hb | hb
  · have hR : bidC floor bidder c = 2 := by unfold bidC; rw [if_pos (.inl hb)]
    unfold bidL
    rw [hR, if_neg (by omega)]
    have hb1 : decide (bidder < 0) = true := by simpa using hb
    clear hR
    go_enter Try.func29, Try.ntmps29
    go_wp2_with (go_at_call 11; refine (HC.out _).mono ?_; rintro e w' ⟨rfl, rfl⟩)
    go_ret
    exact RefP.of_below HR.out (Below.refl _ _)
  · have hb1 : decide (bidder < 0) = false := by simpa using hb
    rcases hcc : coinsB c with _ | _
    · rw [hcc] at HC
      have hR : bidC floor bidder c = 2 := by unfold bidC; rw [if_pos (.inr hcc)]
      unfold bidL
      rw [hR, if_neg (by omega)]
      clear hR hcc
      go_enter Try.func29, Try.ntmps29
      go_wp2_with (go_at_call 11; refine (HC.out _).mono ?_; rintro e w' ⟨rfl, rfl⟩)
      go_ret
      exact RefP.of_below HR.out (Below.refl _ _)
    · rw [hcc] at HC
      rcases Int.lt_or_le c floor with hf | hf
      · have hR : bidC floor bidder c = 7 := by unfold bidC; rw [if_neg (by simp [hcc]; omega), if_pos hf]
        unfold bidL
        rw [hR, if_neg (by omega)]
        clear hR hcc
        go_enter Try.func29, Try.ntmps29
        go_wp2_with (go_at_call 11; refine (HC.out _).mono ?_; rintro e w' ⟨rfl, rfl⟩)
        go_ret
        exact RefP.of_below HR.out (Below.refl _ _)
      · have hR : bidC floor bidder c = 0 := by unfold bidC; rw [if_neg (by simp [hcc]; omega), if_neg (by omega)]
        unfold bidL
        rw [hR, if_pos rfl]
        have hf1 : ¬ c < floor := by omega
        generalize dropL bidder l = l1 at *
        generalize dropC bidder l = cd at *
        clear hR hcc
        go_enter Try.func29, Try.ntmps29
        go_wp2_with (go_at_call 11; refine (HC.out _).mono ?_; rintro e w' ⟨rfl, rfl⟩)
        refine (HD.out).mono ?_
        rintro e w1 ⟨rfl, v1, hbx1, ht1, hv1⟩
        obtain ⟨A, cp, rfl, _⟩ := own_sh hbx1.row
        have d1 := hbx1.cell 1
        simp at d1
        have HB1 := hide hbx1
        have HT1 := hide ht1
        have HV1 := hide hv1
        have G1 : Hid (∀ u ∈ [Value.int .i64 bidder, .int .i64 c], u.oneCell' = true) := hide (by intro u hu; simp at hu; rcases hu with rfl | rfl <;> rfl)
        have G2 : Hid (l1.length + 1 ≤ maxLen) := hide (by have := HDL.out; unfold maxLen; omega)
        have G3 : Hid ((l1.length + 1) * 16 ≤ 140737488355328) := hide (by have := HDL.out; omega)
        have G5 : Hid (0 + l1.length ≤ maxLen) := hide (by have := HDL.out; unfold maxLen; omega)
        have G6 : Hid ((0 + l1.length) * 16 ≤ 140737488355328) := hide (by have := HDL.out; omega)
        clear c0 hbx1 ht1 hv1
        have HRD : Hid (Reads w1 w1.heap.size 2 A l1.length (flat l1)) := hide (Reads.of_own HB1.out.row)
        go_wp2_with (first | (at_builtin; refine wpList_append_any rfl (.tmp 24) (.tmp 28) 22 rfl w1.heap.size 33 _ 2 16 info33 Try.underlying22 rfl (by decide) _ 0 [] rfl (World.ownsRow_nil _ _ _ _) w1.heap.size A l1.length cp (flat l1) rfl HRD.out (flat_one _) G5.out G6.out (Nat.le_refl _) ?_; intro v2 w2 hown2 hg2 _; rw [Nat.zero_add, List.nil_append] at hown2; obtain ⟨A2, c2, hv2, _⟩ := own_sh hown2; subst hv2; have HO2 := hide hown2; have HB2 : Hid (Below w1.heap.size w1 w2) := hide ((Below.refl _ _).grown hg2 (Nat.le_refl _) (fun j hj => by cases hj)); have HZ2 := hide hg2.size; clear hown2 hg2 d1) | (at_builtin; refine wpList_app rfl (.tmp 31) (.tmp 35) 22 rfl w1.heap.size (.agg #[.int .i64 0, .int .i64 0]) 2 16 info33 Try.underlying22 rfl (by decide) _ _ _ rfl HO2.out 1 1 rfl rfl G1.out G2.out G3.out HZ2.out ?_; intro v9 w9 hown9 hg9 _ _; obtain ⟨A9, c9, hv9, _⟩ := own_sh hown9; subst hv9; have HO9 := hide hown9; have HB9 : Hid (Below w1.heap.size w1 w9) := hide (HB2.out.grown hg9 HZ2.out (fun j hj => (HO2.out.lt j hj).1)); have HP9 : Hid (w9.heap[r]? = some (.cells #[.int .i64 floor, .slice A l1.length cp] 49 (0, 0))) := hide ((HB9.out.block r (lt_of_block HB1.out.blk)).trans HB1.out.blk); have f9 : w9.frozen? ⟨r, 1, none⟩ = false := (by simp [World.frozen?, HP9.out]); have d9 := cell_of_row w9 r 1 _ _ (0, 0) HP9.out; simp at d9; clear hown9 hg9))
        go_ret
        have np := own_ne HO9.out HP9.out (by simp)
        refine ⟨rfl, _, ⟨setCell_block HP9.out 1 _, ?_, HR.out.base⟩, ?_, .inr (fun k hk => Nat.le_trans HT1.out.size (HO9.out.lt k hk).1)⟩
        · rw [List.length_append, flat_append]
          exact own_base (ownsRow_setCell_other HO9.out (a := ⟨r, 1, none⟩) np _) (Nat.le_trans hB HT1.out.size)
        · exact (HT1.out.next (Turns.of_below (p := fun _ => False) HB9.out) (fun k _ e => e.elim)).next (Turns.of_set w9 ⟨r, 1, none⟩ _) (fun k _ e => e)
end Go.Proofs.Ytnidmoljhopcoaa
