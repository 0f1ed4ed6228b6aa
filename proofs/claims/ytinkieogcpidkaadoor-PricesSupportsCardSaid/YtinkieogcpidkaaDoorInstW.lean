/- The walks of offers.Check, offers.Instance: what they compute. -/
import Derived.Test.YtinkieogcpidkaaDoorOffW
namespace Go.Proofs.YtinkieogcpidkaaDoor
open Go.RowKit

def PairPost (a b : Value) (w : World) (e : Ending) (w' : World) : Prop := e = .returned (.tuple #[a, b]) ∧ Below w.heap.size w w'
def CheckPost (n : Int) (l : List Offer) (w : World) (e : Ending) (w' : World) : Prop := e = .returned (.tuple #[.int .i64 (checkO n l).1, .int .i64 (checkO n l).2]) ∧ Below w.heap.size w w'

set_option maxRecDepth 100000 in
set_option maxHeartbeats 2000000 in
theorem check_any (n : Int) (A : Option Addr) (c : Nat) (l : List Offer) (w : World) (h : Offs w w.heap.size A l) (hl : l.length ≤ 1000000) (hw : OWide l) :
    Calls Tryd.prog 53 #[.int .i64 n, .slice A l.length c] w (CheckPost n l w) := by
  have hmf : ∀ (fn : Fn) (first cap : Array Value) (w : World), (Instr.makeFunc fn first cap).run Tryd.prog w = .ok (.func fn first cap) w := fun _ _ _ _ => rfl
  have HA := hide (fun W => all_any n W)
  unfold AllPost at HA
  have hB : Below w.heap.size w (w.alloc (.cells #[.int .u32 (allI n : Int)] 26)) := (Below.refl _ _).alloc (Nat.le_refl _) _
  by_cases h1 : n < 1
  · have hr : checkO n l = (0, 2) := by unfold checkO; rw [if_pos (.inl h1)]
    unfold CheckPost
    rw [hr]
    clear hr
    generalize allI n = al at *
    generalize allE n = ae at *
    go_enter Tryd.func53, Tryd.ntmps53
    go_wp2_with (go_at_call 32; refine (HA.out _).mono ?_; rintro e w' ⟨rfl, rfl⟩)
    go_ret2
    exact ⟨rfl, hB⟩
  · by_cases h2 : 10 < n
    · have hr : checkO n l = (0, 2) := by unfold checkO; rw [if_pos (.inr h2)]
      unfold CheckPost
      rw [hr]
      clear hr
      generalize allI n = al at *
      generalize allE n = ae at *
      go_enter Tryd.func53, Tryd.ntmps53
      go_wp2_with (go_at_call 32; refine (HA.out _).mono ?_; rintro e w' ⟨rfl, rfl⟩)
      go_ret2
      exact ⟨rfl, hB⟩
    · have e1 : allI n = allG n.toNat := by unfold allI; rw [if_neg (by omega)]
      have e2 : allE n = 0 := by unfold allE; rw [if_neg (by omega)]
      have hall := allG_lt n.toNat (by omega)
      rw [e1] at hB HA
      rw [e2] at HA
      by_cases h3 : 8 < l.length
      · have hr : checkO n l = (0, 3) := by unfold checkO; rw [if_neg (by omega), if_pos h3]
        unfold CheckPost
        rw [hr]
        clear hr e1 e2
        have h3' : (8 : Int) < (l.length : Int) := by omega
        generalize allG n.toNat = al at *
        go_enter Tryd.func53, Tryd.ntmps53
        go_wp2_with (go_at_call 32; refine (HA.out _).mono ?_; rintro e w' ⟨rfl, rfl⟩)
        go_ret2
        exact ⟨rfl, hB⟩
      · have hr : checkO n l = if 0 ≤ idxTo (badO (allG n.toNat)) l then (idxTo (badO (allG n.toNat)) l, 180) else (0, 0) := by unfold checkO; rw [if_neg (by omega), if_neg h3]
        unfold CheckPost
        rw [hr]
        clear hr e1 e2
        have h3' : (l.length : Int) ≤ 8 := by omega
        generalize allG n.toNat = al at *
        have HI : Hid (Calls Tryd.prog 60 #[.slice A l.length c, .func (.func 59) #[] #[.pointer (some ⟨w.heap.size, 0, none⟩)]] (w.alloc (.cells #[.int .u32 (al : Int)] 26)) (IntPost (idxTo (badO al) l) (w.alloc (.cells #[.int .u32 (al : Int)] 26)))) :=
          hide (indexBad al w.heap.size A c l _ hall (World.cell?_alloc_mark w _ _ (0, 0) 0) (by simp) (h.up ((Below.refl _ _).alloc (Nat.le_refl _) _)) hl hw)
        generalize idxTo (badO al) l = r at *
        clear h hw
        by_cases h4 : 0 ≤ r
        · rw [if_pos h4]
          go_enter Tryd.func53, Tryd.ntmps53
          go_wp2_with (first | (go_at_call 32; refine (HA.out _).mono ?_; rintro e w' ⟨rfl, rfl⟩) | (go_at_call 60; refine (HI.out).mono ?_; rintro e w1 ⟨rfl, hb1⟩))
          go_ret2
          exact ⟨rfl, hB.trans (hb1.mono (by simp))⟩
        · rw [if_neg h4]
          go_enter Tryd.func53, Tryd.ntmps53
          go_wp2_with (first | (go_at_call 32; refine (HA.out _).mono ?_; rintro e w' ⟨rfl, rfl⟩) | (go_at_call 60; refine (HI.out).mono ?_; rintro e w1 ⟨rfl, hb1⟩))
          go_ret2
          exact ⟨rfl, hB.trans (hb1.mono (by simp))⟩

set_option maxHeartbeats 400000 in
theorem long_any (A : Option Addr) (c n : Nat) (w : World) (hn : n ≤ 1000000) : Calls Tryd.prog 51 #[.slice A n c] w (BoolPost (decide (8 < n)) w) := by
  have e : decide (8 < n) = decide ((8 : Int) < (n : Int)) := by simp only [Nat.lt_iff_add_one_le, Int.lt_iff_add_one_le, decide_eq_decide]; omega
  rw [e]
  go_enter Tryd.func51, Tryd.ntmps51
  go_wp2
  go_ret
  exact ⟨rfl, rfl⟩

def BLens (ls : List (List Offer)) : Prop := ∀ l ∈ ls, l.length ≤ 1000000
set_option maxRecDepth 100000 in
set_option maxHeartbeats 2000000 in
theorem indexLong (A : Option Addr) (c : Nat) (hs : List Hdr) (ls : List (List Offer)) (w : World) (h : Buys w w.heap.size A hs ls) (hl : ls.length ≤ 1000000) (hls : BLens ls) :
    Calls Tryd.prog 58 #[.slice A ls.length c, .func (.func 51) #[] #[]] w (IntPost (idxTo longB ls) w) := by
  have hat := h.at_
  have HG := hide h
  have HLS := hide hls
  clear h hls
  go_enter Tryd.func58, Tryd.ntmps58
  go_wp2_with fail
  go_loopw [8] (fun i wr => ∃ k : Nat, k ≤ ls.length ∧ i = .int .i64 k ∧ (∀ j y, j < k → ls[j]? = some y → longB y = false) ∧ Below w.heap.size w wr) (fun i _ => ls.length - (intOf i).toNat)
  case atStart => exact ⟨0, Nat.zero_le _, rfl, fun j y hj => absurd hj (by omega), Below.refl _ _⟩
  case round =>
    obtain ⟨k, hk, rfl, hno, hb⟩ := hrel
    have HN := hide hno; clear hno
    by_cases hlt : k < ls.length
    · obtain ⟨b, o, rfl, hbB, hcc⟩ := hat (by omega)
      obtain ⟨a, x, ha, hx, _⟩ := HG.out.get hlt
      have d0 := (hb.cell (p := ⟨b, o + k, none⟩) hbB).trans (hcc k a x ha hx)
      have hz := hb.size
      have HX := hide hx
      have HB := hide hb
      obtain ⟨a1, a2⟩ := a
      simp only at d0
      have HCL : Hid (Calls Tryd.prog 51 #[.slice a1 x.length a2] wr (BoolPost (longB x) wr)) := hide (long_any a1 a2 x.length wr (HLS.out x (List.mem_of_getElem? hx)))
      clear hcc hat hx hb ha
      by_cases hp : longB x = true
      · rw [hp] at HCL
        have HR := hide (idxTo_hit HX.out hp HN.out)
        clear hp
        go_wp2_with (go_at_call 51; refine (HCL.out).mono ?_; rintro e w' ⟨rfl, rfl⟩)
        go_ret
        refine ⟨by rw [HR.out]; rfl, HB.out⟩
      · have hp' : longB x = false := by simpa using hp
        rw [hp'] at HCL
        have HP := hide hp'
        clear hp hp'
        go_wp2_with (go_at_call 51; refine (HCL.out).mono ?_; rintro e w' ⟨rfl, rfl⟩)
        go_roundw
        case rel => exact ⟨k + 1, by omega, by go_num, no_next HN.out HX.out HP.out, HB.out⟩
        case measure => simp [intOf]; omega
    · have : k = ls.length := by omega
      subst this
      have HR := hide (idxTo_miss HN.out)
      go_wp2_with fail
      go_ret
      exact ⟨by rw [HR.out]; rfl, hb⟩
theorem containsLong (A : Option Addr) (c : Nat) (hs : List Hdr) (ls : List (List Offer)) (w : World) (h : Buys w w.heap.size A hs ls) (hl : ls.length ≤ 1000000) (hls : BLens ls) :
    Calls Tryd.prog 52 #[.slice A ls.length c, .func (.func 51) #[] #[]] w (ValPost (.bool (ls.any longB)) w) := by
  have H := hide (indexLong A c hs ls w h hl hls)
  rw [← idxTo_any]
  generalize idxTo longB ls = i at *
  go_enter Tryd.func52, Tryd.ntmps52
  go_wp2_with (go_at_call 58; refine (H.out).mono ?_; rintro e w' ⟨rfl, hb⟩)
  go_ret
  exact ⟨rfl, hb⟩

theorem instTo_hit {n : Int} : ∀ {ls : List (List Offer)} {k : Nat} {l : List Offer}, ls[k]? = some l → (checkO n l).2 ≠ 0 → (∀ j y, j < k → ls[j]? = some y → (checkO n y).2 = 0) → instTo n ls = (checkO n l).2
  | [], k, l, h, _, _ => by simp at h
  | a :: ls, 0, l, h, h1, _ => by
    simp at h
    subst h
    simp [instTo, h1]
  | a :: ls, k + 1, l, h, h1, h2 => by
    have h3 := h2 0 a (by omega) rfl
    simp only [instTo, h3, ne_eq, not_true_eq_false, if_false]
    exact instTo_hit (by simpa using h) h1 (fun j y hj hy => h2 (j + 1) y (by omega) (by simpa using hy))
theorem instTo_miss {n : Int} : ∀ {ls : List (List Offer)}, (∀ (j : Nat) y, j < ls.length → ls[j]? = some y → (checkO n y).2 = 0) → instTo n ls = 0
  | [], _ => rfl
  | a :: ls, h2 => by
    have h3 := h2 0 a (by simp) rfl
    simp only [instTo, h3, ne_eq, not_true_eq_false, if_false]
    exact instTo_miss (fun j y hj hy => h2 (j + 1) y (by simpa using hj) (by simpa using hy))

set_option maxRecDepth 100000 in
set_option maxHeartbeats 4000000 in
theorem inst_any (n : Int) (A : Option Addr) (c : Nat) (hs : List Hdr) (ls : List (List Offer)) (w : World) (h : Buys w w.heap.size A hs ls) (hl : ls.length ≤ 1000000) (hls : BLens ls) (hw : BWide ls) :
    Calls Tryd.prog 42 #[instV n A ls.length c] w (IntPost (instE n ls) w) := by
  have hB : Below w.heap.size w (w.alloc (.cells #[.int .i64 n, .slice A ls.length c] 24)) := (Below.refl _ _).alloc (Nat.le_refl _) _
  by_cases h1 : n < 1
  · have hr : instE n ls = 2 := by unfold instE; rw [if_pos (.inl h1)]
    rw [hr]
    clear hr h
    simp only [instV]
    go_enter Tryd.func42, Tryd.ntmps42
    go_wp2
    go_ret
    exact ⟨rfl, hB⟩
  · by_cases h2 : 10 < n
    · have hr : instE n ls = 2 := by unfold instE; rw [if_pos (.inr h2)]
      rw [hr]
      clear hr h
      simp only [instV]
      go_enter Tryd.func42, Tryd.ntmps42
      go_wp2
      go_ret
      exact ⟨rfl, hB⟩
    · by_cases h3 : 32 < ls.length
      · have hr : instE n ls = 3 := by unfold instE; rw [if_neg (by omega), if_pos (.inl h3)]
        rw [hr]
        clear hr h
        have h3' : (32 : Int) < (ls.length : Int) := by omega
        simp only [instV]
        go_enter Tryd.func42, Tryd.ntmps42
        go_wp2
        go_ret
        exact ⟨rfl, hB⟩
      · have HCL : Hid (∀ W, Below w.heap.size w W → Calls Tryd.prog 52 #[.slice A ls.length c, .func (.func 51) #[] #[]] W (ValPost (.bool (ls.any longB)) W)) :=
          hide (fun W hb => containsLong A c hs ls W (h.up hb) hl hls)
        have h3' : (ls.length : Int) ≤ 32 := by omega
        by_cases h4 : ls.any longB = true
        · have hr : instE n ls = 3 := by unfold instE; rw [if_neg (by omega), if_pos (.inr h4)]
          rw [hr]
          rw [h4] at HCL
          clear hr h h4
          simp only [instV]
          go_enter Tryd.func42, Tryd.ntmps42
          go_wp2_with (go_at_call 52; refine (HCL.out _ hB).mono ?_; rintro e w1 ⟨rfl, hb1⟩)
          go_ret
          exact ⟨rfl, hB.trans (hb1.mono (by simp))⟩
        · have h4' : ls.any longB = false := by simpa using h4
          have hr : instE n ls = instTo n ls := by unfold instE; rw [if_neg (by omega), if_neg (by rw [h4']; simp; omega)]
          rw [hr]
          rw [h4'] at HCL
          have HCK : Hid (∀ (W : World) (A' : Option Addr) (c' : Nat) (l : List Offer), Offs W W.heap.size A' l → l.length ≤ 1000000 → OWide l → Calls Tryd.prog 53 #[.int .i64 n, .slice A' l.length c'] W (CheckPost n l W)) :=
            hide (fun W A' c' l h' hl' hw' => check_any n A' c' l W h' hl' hw')
          have hat := h.at_
          have HG := hide h
          have HLS := hide hls
          have HWD := hide hw
          have HB := hide hB
          clear hr h h4 h4' hls hw
          simp only [instV]
          go_enter Tryd.func42, Tryd.ntmps42
          go_wp2_with (go_at_call 52; refine (HCL.out _ hB).mono ?_; rintro e w1 ⟨rfl, hb1⟩; have HB1 : Hid (Below w.heap.size w w1) := hide (HB.out.trans (hb1.mono (by simp))); have hbx : w1.heap[w.heap.size]? = some (.cells #[.int .i64 n, .slice A ls.length c] 24 (0, 0)) := (hb1.block _ (by simp)).trans (heap_alloc_new w _); clear hb1; have e0 := cell_of_row w1 w.heap.size 0 _ _ (0, 0) hbx; have e1 := cell_of_row w1 w.heap.size 1 _ _ (0, 0) hbx; simp at e0 e1)
          have HBX := hide hbx
          clear e0 e1 hbx hB HCL
          go_loopw [31] (fun i wr => ∃ k : Nat, k ≤ ls.length ∧ i = .int .i64 k ∧ (∀ j y, j < k → ls[j]? = some y → (checkO n y).2 = 0) ∧ Below w1.heap.size w1 wr) (fun i _ => ls.length - (intOf i).toNat)
          case atStart => exact ⟨0, Nat.zero_le _, rfl, fun j y hj => absurd hj (by omega), Below.refl _ _⟩
          case round =>
            obtain ⟨k, hk, rfl, hno, hb⟩ := hrel
            have HN := hide hno; clear hno
            have hz1 := HB1.out.size
            by_cases hlt : k < ls.length
            · obtain ⟨b, o, rfl, hbB, hcc⟩ := hat (by omega)
              obtain ⟨a, x, ha, hx, hro, _⟩ := HG.out.get hlt
              have hbw := HB1.out.trans (hb.mono hz1)
              have d0 := (hbw.cell (p := ⟨b, o + k, none⟩) hbB).trans (hcc k a x ha hx)
              have hbx := (hb.block _ (lt_of_block HBX.out)).trans HBX.out
              have e0 := cell_of_row wr w.heap.size 0 _ _ (0, 0) hbx
              have e1 := cell_of_row wr w.heap.size 1 _ _ (0, 0) hbx
              simp at e0 e1
              have hz := hb.size
              have HX := hide hx
              have HBW := hide hb
              obtain ⟨a1, a2⟩ := a
              simp only at d0 hro
              have HC1 : Hid (Calls Tryd.prog 53 #[.int .i64 n, .slice a1 x.length a2] wr (CheckPost n x wr)) := hide (HCK.out wr a1 a2 x (hro.up hbw) (HLS.out x (List.mem_of_getElem? hx)) (HWD.out x (List.mem_of_getElem? hx)))
              clear hcc hat hx hb ha hbw hbx hro
              have HH := hide (fun h1 => instTo_hit HX.out h1 HN.out)
              unfold CheckPost at HC1
              by_cases hp : (checkO n x).2 = 0
              · have HP := hide hp
                rw [hp] at HC1
                generalize (checkO n x).1 = z1 at HC1
                clear hp HH
                go_wp2_with (go_at_call 53; refine (HC1.out).mono ?_; rintro e w' ⟨rfl, hb1⟩)
                go_roundw
                case rel =>
                  refine ⟨k + 1, by omega, by go_num, fun j y hj hy => ?_, HBW.out.trans (hb1.mono hz)⟩
                  rcases Nat.lt_or_ge j k with h5 | h5
                  · exact HN.out j y h5 hy
                  · obtain rfl : j = k := by omega
                    have := HX.out
                    rw [hy] at this
                    injection this with this
                    rw [this]
                    exact HP.out
                case measure => simp [intOf]; omega
              · have HR := hide (HH.out hp)
                have hp' : ((checkO n x).2 != 0) = true := by simpa using hp
                generalize (checkO n x).1 = z1 at HC1
                generalize (checkO n x).2 = z2 at HC1 HR hp'
                clear hp HH
                go_wp2_with (go_at_call 53; refine (HC1.out).mono ?_; rintro e w' ⟨rfl, hb1⟩)
                go_ret
                exact ⟨by rw [HR.out]; rfl, HB1.out.trans ((HBW.out.trans (hb1.mono hz)).mono hz1)⟩
            · have : k = ls.length := by omega
              subst this
              have HR := hide (instTo_miss HN.out)
              go_wp2_with fail
              go_ret
              exact ⟨by rw [HR.out]; rfl, HB1.out.trans (hb.mono hz1)⟩
end Go.Proofs.YtinkieogcpidkaaDoor
