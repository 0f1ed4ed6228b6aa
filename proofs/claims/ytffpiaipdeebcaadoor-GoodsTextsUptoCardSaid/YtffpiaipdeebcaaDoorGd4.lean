/- The walk of the document's Apart; how goods.Apart's sum is the document's. -/
import Derived.Test.YtffpiaipdeebcaaDoorGd3
namespace Go.Proofs.YtffpiaipdeebcaaDoor
open Go.RowKit Go.Maps Go.Shelf
open Go.ChangeMaps Go.WideMaps

/-- Sets joined, if they are apart. -/
def apartG (gs : List Nat) : Nat × Bool := if apartB gs then (setC fun j => (cntAt gs j : Nat), true) else (0, false)
theorem orAll_bit : ∀ (gs : List Nat) (s i : Nat), (orAll s gs).testBit i = (s.testBit i || decide (0 < cntAt gs i))
  | [], s, i => by simp [orAll, cntAt]
  | g :: gs, s, i => by
    show (orAll (s ||| g) gs).testBit i = _
    rw [orAll_bit gs, Nat.testBit_or]
    have hc : cntAt (g :: gs) i = (if g.testBit i then 1 else 0) + cntAt gs i := by
      unfold cntAt
      rw [List.filter_cons]
      split
      · rw [List.length_cons]; omega
      · omega
    rw [hc]
    cases g.testBit i
    · simp
    · simp
      omega
theorem cnt_high {gs : List Nat} (hg : ∀ g ∈ gs, g < 4294967296) {i : Nat} (h : 0 < cntAt gs i) : i < 32 := by
  unfold cntAt at h
  obtain ⟨x, hx⟩ := List.exists_mem_of_length_pos h
  rw [List.mem_filter] at hx
  exact bit_lt (hg x hx.1) hx.2
theorem orAll_setC {gs : List Nat} (hg : ∀ g ∈ gs, g < 4294967296) : orAll 0 gs = setC fun j => (cntAt gs j : Nat) := by
  apply Nat.eq_of_testBit_eq
  intro i
  rw [orAll_bit, setC_bit, Nat.zero_testBit, Bool.false_or]
  by_cases h : 0 < cntAt gs i
  · have := cnt_high hg h
    simp [h, this]
  · simp [h]
theorem apartG_R {gs : List Nat} (hg : ∀ g ∈ gs, g < 4294967296) : apartG gs = match apartR 0 (gs.flatMap eachL) with | some s => (s, true) | none => (0, false) := by
  rw [apart_same gs hg]
  unfold apartG
  by_cases h : apartB gs = true
  · rw [if_pos h, if_pos h, orAll_setC hg]
  · rw [if_neg h, if_neg h]
theorem apartR_drop {s : Nat} {l m : List Nat} {k x : Nat} (h : l[k]? = some x) : apartR s (l.drop k ++ m) = if s.testBit x then none else apartR (s + 2 ^ x) (l.drop (k + 1) ++ m) := by
  rw [List.drop_eq_getElem_cons (List.getElem?_eq_some_iff.1 h).1, (List.getElem?_eq_some_iff.1 h).2]
  rfl
set_option maxRecDepth 100000 in
set_option maxHeartbeats 4000000 in
theorem refapart_any (A : Option Addr) (c : Nat) (gs : List Nat) (w : World) (h : One gV w w.heap.size A gs) (hl : (gs.length : Int) ≤ 9223372036854775807) (hg : ∀ g ∈ gs, g < 4294967296) :
    Calls Tryd.prog 14 #[.slice A gs.length c] w (ValPost (.tuple #[.int .u32 ((apartG gs).1 : Nat), .bool (apartG gs).2]) w) := by
  have hat := One.at_ h
  have HG := hide hg
  have HAG := hide (apartG_R hg)
  have HEA := hide (fun s hs W => refeach_any s hs W)
  unfold EachP at HEA
  have HHS := hide (fun s hs g W => refhas_any s hs g W)
  unfold SamePost at HHS
  have HBT := hide (fun g h0 h1 W => refbit_any g h0 h1 W)
  unfold SamePost at HBT
  obtain ⟨r, hr⟩ : ∃ r, apartG gs = r := ⟨_, rfl⟩
  rw [hr] at HAG ⊢
  clear h hg hr
  go_enter Tryd.func14, Tryd.ntmps14
  go_upto_region 3 with fail
  go_loopw [4, 5] (fun sv iv wr => ∃ i s : Nat, i ≤ gs.length ∧ sv = .int .u32 s ∧ s < 4294967296 ∧ iv = .int .i64 i ∧ apartR 0 (gs.flatMap eachL) = apartR s ((gs.drop i).flatMap eachL) ∧ Below w.heap.size w wr) (fun _ iv _ => gs.length - (intOf iv).toNat)
  case atStart => exact ⟨0, 0, Nat.zero_le _, rfl, by omega, rfl, rfl, Below.refl _ _⟩
  case round =>
    obtain ⟨i, s, hi, rfl, hs, rfl, hre, hb⟩ := hrel
    have HR := hide hre
    have HB := hide hb
    clear hre hb
    by_cases hlt : i < gs.length
    case neg =>
      obtain rfl : i = gs.length := by omega
      have HRN : Hid (r = (s, true)) := hide (by rw [HAG.out, HR.out, List.drop_length]; rfl)
      go_wp2_with fail
      go_ret2
      exact ⟨by rw [HRN.out]; rfl, HB.out⟩
    case pos =>
    obtain ⟨bb, bo, rfl, hbB, hcc⟩ := hat (by omega)
    obtain ⟨g, hgx⟩ : ∃ g, gs[i]? = some g := ⟨gs[i], List.getElem?_eq_getElem hlt⟩
    have d0 := (HB.out.cell (p := ⟨bb, bo + i, none⟩) hbB).trans (hcc i g hgx)
    have hg32 := HG.out g (List.mem_of_getElem? hgx)
    have hii : (i : Int) < (gs.length : Int) := by omega
    have HE := hide (HEA.out g hg32 wr)
    have hre := HR.out
    rw [List.drop_eq_getElem_cons (List.getElem?_eq_some_iff.1 hgx).1, (List.getElem?_eq_some_iff.1 hgx).2, List.flatMap_cons] at hre
    have hat2 := fun k x (h : (eachL g)[k]? = some x) => (eachL_at h).1
    have hel := eachL_len g
    obtain ⟨L, hL⟩ : ∃ L, eachL g = L := ⟨_, rfl⟩
    rw [hL] at HE hre hat2 hel
    have HAT := hide hat2
    have HRE := hide hre
    clear hre hL hat2 hcc hgx
    go_upto_region 7 with (go_at_call 21; refine (HE.out).mono ?_; rintro e w2 ⟨A2, c2, rfl, hone, hb2⟩; have HO := hide hone; have HB2 := hide (HB.out.trans (hb2.mono HB.out.size)); clear hone hb2)
    go_loopw [4, 7] (fun sv kv wz => ∃ k t : Nat, k ≤ L.length ∧ sv = .int .u32 t ∧ t < 4294967296 ∧ kv = .int .i64 k ∧ apartR 0 (gs.flatMap eachL) = apartR t (L.drop k ++ (gs.drop (i + 1)).flatMap eachL) ∧ w2 = wz) (fun _ kv _ => L.length - (intOf kv).toNat)
    case atStart => exact ⟨0, s, Nat.zero_le _, rfl, hs, rfl, HRE.out, by trivial⟩
    case round =>
      clear HRE
      obtain ⟨k, t, hk, rfl, ht, rfl, hre, rfl⟩ := hrel
      have HRK := hide hre
      clear hre
      by_cases hkl : k < L.length
      case neg =>
        obtain rfl : k = L.length := by omega
        have HRD : Hid (apartR 0 (gs.flatMap eachL) = apartR t ((gs.drop (i + 1)).flatMap eachL)) := hide (by rw [HRK.out, List.drop_length]; rfl)
        go_wp2_with fail
        go_roundw
        case rel => exact ⟨i + 1, t, by omega, rfl, ht, by go_num, HRD.out, HB2.out⟩
        case measure => simp [intOf]; omega
      case pos =>
      obtain ⟨yb, yo, rfl, hyB, hyc⟩ := One.at_ HO.out (by omega)
      obtain ⟨x, hx⟩ : ∃ x, L[k]? = some x := ⟨L[k], List.getElem?_eq_getElem hkl⟩
      have d1 := hyc k x hx
      have hki : (k : Int) < (L.length : Int) := by omega
      have hx32 := HAT.out k x hx
      have HH := hide (HHS.out t ht x w2)
      rw [hasB_nat hx32] at HH
      have HBX := hide (HBT.out x (by omega) (by omega) w2)
      rw [Int.toNat_natCast] at HBX
      have hrn := HRK.out
      rw [apartR_drop hx] at hrn
      have hor := or_pow t x
      have hol := or_lt ht hx32
      obtain ⟨q, hq⟩ : ∃ q : Nat, 2 ^ x = q := ⟨_, rfl⟩
      rw [hq] at HBX hrn hor hol
      clear hyc hx hq
      cases hbt : t.testBit x
      · rw [hbt] at HH hrn hor
        rw [if_neg (by simp)] at hor hrn
        rw [← hor] at hol
        have hsum : IntKind.u32.wrap ((t : Int) + (q : Int)) = ((t + q : Nat) : Int) := by rw [Go.IntWalk.u32_in _ (by omega)]; omega
        have HRN := hide hrn
        clear hbt hor hrn
        go_wp2_with (first
          | (go_at_call 17; refine (HH.out).mono ?_; rintro e w3 ⟨rfl, rfl⟩)
          | (go_at_call 42; refine (HBX.out).mono ?_; rintro e w3 ⟨rfl, rfl⟩))
        go_roundw
        case rel => exact ⟨k + 1, t + q, by omega, by first | rfl | exact congrArg (Value.int .u32) hsum | go_num, hol, by go_num, HRN.out, by trivial⟩
        case measure => simp [intOf]; omega
      · rw [hbt] at HH hrn
        rw [if_pos rfl] at hrn
        have HRN : Hid (r = (0, false)) := hide (by rw [HAG.out, hrn])
        clear hbt hor hrn
        go_wp2_with (go_at_call 17; refine (HH.out).mono ?_; rintro e w3 ⟨rfl, rfl⟩)
        go_ret2
        exact ⟨by rw [HRN.out]; rfl, HB2.out⟩
theorem apartG_post {gs : List Nat} {w : World} {e : Ending} {w' : World} (h : ApartPost gs w e w') : ValPost (.tuple #[.int .u32 ((apartG gs).1 : Nat), .bool (apartG gs).2]) w e w' := by
  obtain ⟨rfl, hb⟩ := h
  refine ⟨?_, hb⟩
  unfold apartG
  cases apartB gs <;> rfl
end Go.Proofs.YtffpiaipdeebcaaDoor
