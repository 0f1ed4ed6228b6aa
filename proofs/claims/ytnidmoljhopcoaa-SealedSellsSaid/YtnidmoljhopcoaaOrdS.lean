/- The walk of sealed.Order: the places of bids, the highest first. -/
import Derived.Test.YtnidmoljhopcoaaStabU
import Derived.Test.YtnidmoljhopcoaaPlayOwn
namespace Go.Proofs.Ytnidmoljhopcoaa
open Go.Shelf Go.RowKit Go.Lib Go.Sort Go.Proofs

def cfO (l : List (Int × Int)) (x y : Int) : Int := if coinsAt l y.toNat < coinsAt l x.toNat then -1 else if coinsAt l x.toNat < coinsAt l y.toNat then 1 else 0
theorem ltO (l : List (Int × Int)) (x y : Int) : ltOf (cfO l) x y = decide (coinsAt l y.toNat < coinsAt l x.toNat) := by
  unfold ltOf cfO
  by_cases h1 : coinsAt l y.toNat < coinsAt l x.toNat
  · simp [h1]
  · rw [if_neg h1]
    by_cases h2 : coinsAt l x.toNat < coinsAt l y.toNat <;> simp [h1, h2]
theorem swoO (l : List (Int × Int)) : SWO (ltOf (cfO l)) where
  irrefl x := by rw [ltO]; simp
  trans x y z h1 h2 := by rw [ltO] at *; simp at *; omega
  ntrans x y z h1 h2 := by rw [ltO] at *; simp at *; omega

set_option maxRecDepth 100000 in
set_option maxHeartbeats 2000000 in
theorem ordCmp (l : List (Int × Int)) (gb b o c i j : Nat) (W : World) (hi : i < l.length) (hj : j < l.length) (hl : l.length ≤ 1000000) (c0 : W.cell? ⟨gb, 0, none⟩ = some (.slice (some ⟨b, o, none⟩) l.length c))
    (ci : W.cell? ⟨b, o + i * 2 + 1, none⟩ = some (.int .i64 (coinsAt l i))) (cj : W.cell? ⟨b, o + j * 2 + 1, none⟩ = some (.int .i64 (coinsAt l j))) :
    Calls Try.prog 41 #[.int .i64 (i : Int), .int .i64 (j : Int), .pointer (some ⟨gb, 0, none⟩)] W fun e w' => e = .returned (.int .i64 (cfO l (i : Int) (j : Int))) ∧ ∃ q, w' = W.drewN q := by
  have hii : (i : Int) < (l.length : Int) := by omega
  have hjj : (j : Int) < (l.length : Int) := by omega
  have HR : Hid (cfO l (i : Int) (j : Int) = if coinsAt l j < coinsAt l i then -1 else if coinsAt l i < coinsAt l j then 1 else 0) := hide (by unfold cfO; rw [Int.toNat_natCast, Int.toNat_natCast])
  generalize coinsAt l i = x at *
  generalize coinsAt l j = y at *
  rcases Int.lt_trichotomy x y with h | h | h
  · rw [if_neg (by omega), if_pos h] at HR
    have h1 : ¬ y < x := by omega
    have h2 : decide (x > y) = false := decide_eq_false (by omega)
    go_enter Try.func41, Try.ntmps41
    go_wp2_with fail
    go_quiet (fail)
    go_wp2
    go_ret
    exact ⟨by rw [HR.out]; rfl, _, rfl⟩
  · subst h
    rw [if_neg (by omega), if_neg (by omega)] at HR
    go_enter Try.func41, Try.ntmps41
    go_wp2_with fail
    go_quiet (fail)
    go_wp2
    go_ret
    exact ⟨by rw [HR.out]; rfl, _, rfl⟩
  · rw [if_pos h] at HR
    have h2 : decide (x > y) = true := decide_eq_true h
    go_enter Try.func41, Try.ntmps41
    go_wp2_with fail
    go_quiet (fail)
    go_wp2
    go_ret
    exact ⟨by rw [HR.out]; rfl, _, rfl⟩

theorem infoI : EI Try.prog 3 (.int .i64 0) 1 8 := by unfold EI; kernel_rfl
theorem rangeI_snoc (k : Nat) : rangeI (k + 1) = rangeI k ++ [(k : Int)] := by
  unfold rangeI
  rw [List.range_succ, List.map_append]
  rfl
def orderI (l : List (Int × Int)) : List Int := sortedI (cfO l) l.length
def OrdP (l : List (Int × Int)) (w : World) (e : Ending) (w' : World) : Prop :=
  ∃ v, e = .returned v ∧ (orderI l).length = l.length ∧ w'.ownsRow w.heap.size 3 1 v l.length ((orderI l).map (Value.int .i64)) ∧ Below w.heap.size w w'

set_option maxRecDepth 100000 in
set_option maxHeartbeats 4000000 in
theorem order_any (A : Option Addr) (c : Nat) (l : List (Int × Int)) (w : World) (h : Bids w w.heap.size A l) (hl : l.length ≤ 1000000) :
    Calls Try.prog 19 #[.slice A l.length c] w (OrdP l w) := by
  have hat := h.at_
  have HAT := hide hat
  have hmf : ∀ (fn : Fn) (first cap : Array Value) (w : World), (Instr.makeFunc fn first cap).run Try.prog w = .ok (.func fn first cap) w := fun _ _ _ _ => rfl
  have HZ : Hid ((orderI l).length = l.length) := hide (by unfold orderI sortedI; rw [List.length_mergeSort]; exact rangeI_len _)
  clear hat h
  go_enter Try.func19, Try.ntmps19
  go_wp2_with fail
  have HB1 : Hid (Below w.heap.size w (w.alloc (.cells #[.slice A l.length c] 22))) := hide ((Below.refl _ _).alloc (Nat.le_refl _) _)
  have HK1 : Hid ((w.alloc (.cells #[.slice A l.length c] 22)).heap[w.heap.size]? = some (.cells #[.slice A l.length c] 22 (0, 0))) := hide (heap_alloc_new w _)
  go_loopw [3, 7] (fun v i wr => ∃ k : Nat, k ≤ l.length ∧ i = .int .i64 k ∧ wr.ownsRow w.heap.size 3 1 v k ((rangeI k).map (Value.int .i64)) ∧ Below w.heap.size w wr ∧ wr.heap[w.heap.size]? = some (.cells #[.slice A l.length c] 22 (0, 0))) (fun _ i _ => l.length - (intOf i).toNat)
  case atStart => exact ⟨0, Nat.zero_le _, rfl, World.ownsRow_nil _ _ _ _, HB1.out, HK1.out⟩
  case round =>
    obtain ⟨k, hk, rfl, hown, hb, hbl⟩ := hrel
    have HO := hide hown
    have HB := hide hb
    have HK := hide hbl
    clear hown hb hbl
    by_cases hlt : k < l.length
    · have G1 : Hid (∀ u ∈ [Value.int .i64 (k : Int)], u.oneCell' = true) := hide (by intro u hu; simp at hu; subst hu; rfl)
      have G2 : Hid (k + 1 ≤ maxLen) := hide (by unfold maxLen; omega)
      have G3 : Hid ((k + 1) * 8 ≤ 140737488355328) := hide (by omega)
      have G4 := hide HB.out.size
      go_wp2_with (at_builtin; refine wpList_app rfl (.tmp 10) (.tmp 12) 65 rfl w.heap.size (.int .i64 0) 1 8 infoI Try.underlying65 rfl (by decide) _ _ _ rfl HO.out 1 1 rfl rfl G1.out G2.out G3.out G4.out ?_; intro v' w2 hown2 hg2 _ _; have HO2 := hide hown2; have HG2 := hide hg2; clear hown2 hg2)
      go_roundw
      case rel =>
        have np := own_ne HO.out HK.out (by simp)
        refine ⟨k + 1, by omega, by go_num, ?_, HB.out.grown HG2.out G4.out (fun j hj => (HO.out.lt j hj).1), (HG2.out.block _ (lt_of_block HK.out) (fun e => np e.symm)).trans HK.out⟩
        have h5 := HO2.out
        rw [rangeI_snoc, List.map_append]
        exact h5
      case measure => simp [intOf]; omega
    · obtain rfl : k = l.length := by omega
      have np := own_ne HO.out HK.out (by simp)
      have hlt2 := HB.out.size
      rcases HO.out.2 with ⟨rfl, h0⟩ | ⟨g, cap, cur, rfl, hgb, hgh, _⟩
      · have HN := hide (sort_none 41 #[.pointer (some ⟨w.heap.size, 0, none⟩)] wr)
        have hl0 : l = [] := List.eq_nil_of_length_eq_zero h0
        subst hl0
        clear np hlt2
        go_wp2_with fail
        refine (HN.out).mono ?_
        rintro e _ ⟨rfl, rfl⟩
        go_wp2
        go_ret
        exact ⟨_, rfl, HZ.out, by have h5 : orderI [] = [] := List.eq_nil_of_length_eq_zero HZ.out; rw [h5]; exact World.ownsRow_nil _ _ _ _, HB.out⟩
      · have hng : w.heap.size ≠ g := fun e => np (by rw [e]; rfl)
        have hgl := lt_of_block hgh
        have hcm : CmpV (fun x => 0 ≤ x ∧ x < (l.length : Int)) 41 #[.pointer (some ⟨w.heap.size, 0, none⟩)] (cfO l) g 0 l.length wr := by
          intro m os dk hs x y hx hy
          obtain ⟨i, rfl⟩ : ∃ i : Nat, x = i := ⟨x.toNat, by omega⟩
          obtain ⟨j, rfl⟩ : ∃ i : Nat, y = i := ⟨y.toNat, by omega⟩
          have hi : i < l.length := by omega
          have hj : j < l.length := by omega
          obtain ⟨b, o, rfl, hbB, hcl⟩ := HAT.out (by omega)
          have key : ∀ t, t < l.length → (sortWorld (Value.int .i64) wr g 0 m dk os).cell? ⟨b, o + t * 2 + 1, none⟩ = some (.int .i64 (coinsAt l t)) := fun t ht => by
            obtain ⟨z, hz⟩ : ∃ z, l[t]? = some z := ⟨l[t], List.getElem?_eq_getElem ht⟩
            rw [cell_putI (by omega) (by omega), (HB.out.cell (p := ⟨b, o + t * 2 + 1, none⟩) hbB)]
            rw [(hcl t z hz).2]
            unfold coinsAt
            rw [hz]
            rfl
          refine (ordCmp l w.heap.size b o c i j _ hi hj hl ?_ (key i hi) (key j hj)).mono ?_
          · rw [cell_putI hng (lt_of_block HK.out)]
            exact cell_of_row wr _ 0 _ _ (0, 0) HK.out
          · rintro e w' ⟨he, q, hq⟩
            exact ⟨he, q, #[], by rw [hq, grow_empty]⟩
        have HS := hide (sortI_any (swoO l) (enters_of Try.func41 (by kernel_rfl) rfl) hcm HO.out hl)
        have HGB : Hid (w.heap.size ≤ g) := hide hgb
        clear np hlt2 hng hgl hgh hgb hcm
        go_wp2_with fail
        refine (HS.out).mono ?_
        rintro e w2 ⟨rfl, hz, hown2, hg2⟩
        have HO2 := hide hown2
        have HG2 := hide hg2
        clear hown2 hg2 hz
        go_wp2
        go_ret
        exact ⟨_, rfl, HZ.out, HO2.out, HB.out.grown HG2.out HB.out.size (fun j hj => by have := Option.some.inj hj; have := HGB.out; omega)⟩
end Go.Proofs.Ytnidmoljhopcoaa
