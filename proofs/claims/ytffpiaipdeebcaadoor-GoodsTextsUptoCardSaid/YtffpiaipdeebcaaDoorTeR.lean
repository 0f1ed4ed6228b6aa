/- The walks of the document's Text and Parse. -/
import Derived.Test.YtffpiaipdeebcaaDoorTeQ
import Derived.Test.YtffpiaipdeebcaaDoorGd4
import Derived.Lib.SmallJoins
namespace Go.Proofs.YtffpiaipdeebcaaDoor
open Go.RowKit Go.Maps Go.Shelf
open Go.ChangeMaps Go.WideMaps

/-- A digit's byte. -/
def db (v : Nat) : UInt8 := UInt8.ofNat (48 + v)
/-- A text as far as it is told. -/
def toldL (L : List Nat) : List UInt8 := Lib.join (L.map digs) [32]
theorem join_snoc (x : List UInt8) : ∀ (xs : List (List UInt8)), xs ≠ [] → Lib.join (xs ++ [x]) [32] = Lib.join xs [32] ++ 32 :: x
  | [], h => absurd rfl h
  | [y], _ => by rw [List.singleton_append, join_two, Lib.join_one, Lib.join_one]
  | y :: z :: r, _ => by
    have ih := join_snoc x (z :: r) (by simp)
    rw [List.cons_append, List.cons_append, join_two, join_two, ← List.cons_append, ih]
    simp
theorem told_step {L : List Nat} {i g : Nat} (h : L[i]? = some g) : toldL (L.take (i + 1)) = (if 0 < i then toldL (L.take i) ++ [32] else []) ++ digs g := by
  unfold toldL
  rw [List.take_add_one, h, Option.toList_some, List.map_append, List.map_cons, List.map_nil]
  have hi : i < L.length := (List.getElem?_eq_some_iff.1 h).1
  by_cases h0 : 0 < i
  · rw [if_pos h0, join_snoc _ _ (fun e => by have := congrArg List.length e; rw [List.length_map, List.length_take, List.length_nil] at this; omega)]
    simp
  · obtain rfl : i = 0 := by omega
    simp [Lib.join_one]
set_option maxRecDepth 100000 in
set_option maxHeartbeats 4000000 in
theorem reftext_any (s : Nat) (hs : s < 4294967296) (w : World) : Calls Tryd.prog 26 #[.int .u32 (s : Int)] w (ValPost (.string (textG s)) w) := by
  have HEA := hide (refeach_any s hs w)
  unfold EachP at HEA
  have hel := eachL_len s
  have HL0 : Hid (eachL s = [] → textG s = ⟨#[45]⟩) := hide (fun h => by rw [each_nil hs h]; rfl)
  have HL1 : Hid (eachL s ≠ [] → textG s = ⟨(toldL (eachL s)).toArray⟩) := hide (fun h => by
    have h0 : s ≠ 0 := fun e => h (by rw [e]; exact each_zero)
    apply ByteArray.ext
    apply Array.ext'
    exact textG_list hs h0)
  have HLT := hide (fun (k g : Nat) (h : (eachL s)[k]? = some g) => (mem_eachL.1 (List.mem_of_getElem? h)).1)
  obtain ⟨L, hL⟩ : ∃ L, eachL s = L := ⟨_, rfl⟩
  obtain ⟨T, hT⟩ : ∃ T, textG s = T := ⟨_, rfl⟩
  rw [hL] at HEA hel HL0 HL1 HLT
  rw [hT] at HL0 HL1 ⊢
  clear hL hT
  go_enter Tryd.func26, Tryd.ntmps26
  go_upto_region 2 with (go_at_call 21; refine (HEA.out).mono ?_; rintro e w1 ⟨A, c, rfl, hone, hb1⟩; have HO := hide hone; have HB := hide hb1; clear hone hb1)
  by_cases hl0 : L.length = 0
  · have hle : ((L.length : Int) == 0) = true := by rw [beq_iff_eq]; omega
    have HTE := hide (HL0.out (List.eq_nil_of_length_eq_zero hl0))
    clear hl0
    go_wp2_with fail
    go_ret
    exact ⟨by rw [HTE.out]; rfl, HB.out⟩
  · have hle : ((L.length : Int) == 0) = false := by rw [beq_eq_false_iff_ne]; omega
    have HTE := hide (HL1.out (fun e => hl0 (by rw [e]; rfl)))
    clear hl0 HL0 HL1
    go_upto_region 6 with fail
    go_loopw [4, 5] (fun ov iv wr => ∃ (k : Nat) (o : ByteArray), k ≤ L.length ∧ ov = .string o ∧ o.data.toList = toldL (L.take k) ∧ o.size ≤ 3 * k ∧ iv = .int .i64 k ∧ Below w1.heap.size w1 wr) (fun _ iv _ => L.length - (intOf iv).toNat)
    case atStart => exact ⟨0, ⟨#[]⟩, Nat.zero_le _, rfl, rfl, Nat.le_refl _, rfl, Below.refl _ _⟩
    case round =>
      obtain ⟨k, o, hk, rfl, hod, hos, rfl, hb⟩ := hrel
      have HBR := hide hb
      have HOD := hide hod
      have HOS := hide hos
      clear hb hod
      by_cases hlt : k < L.length
      · obtain ⟨g, hg⟩ : ∃ g, L[k]? = some g := ⟨L[k], List.getElem?_eq_getElem hlt⟩
        obtain ⟨bb, bo, rfl, hbB, hcc⟩ := One.at_ HO.out (by omega)
        have HCC := hide (fun W (hb : Below w1.heap.size w1 W) => (hb.cell (p := ⟨bb, bo + k, none⟩) hbB).trans (hcc k g hg))
        have d0 := HCC.out wr HBR.out
        have hg32 := HLT.out k g hg
        have hki : (k : Int) < (L.length : Int) := by omega
        have HST := hide (told_step hg)
        have HKL := hide hlt
        have hq : (g : Int).tdiv 10 = ((g / 10 : Nat) : Int) := by rw [Int.tdiv_eq_ediv_of_nonneg (by omega)]; omega
        have hr : (g : Int).tmod 10 = ((g % 10 : Nat) : Int) := by rw [Int.tmod_eq_emod_of_nonneg (by omega)]; omega
        obtain ⟨q, hqq⟩ : ∃ q, g / 10 = q := ⟨_, rfl⟩
        obtain ⟨r, hrr⟩ : ∃ r, g % 10 = r := ⟨_, rfl⟩
        rw [hqq] at hq
        rw [hrr] at hr
        have hq3 : q ≤ 3 := by omega
        have hr9 : r ≤ 9 := by omega
        have HQR := hide (And.intro hqq hrr)
        have w1q : IntKind.u8.wrap (48 + (q : Int)) = 48 + (q : Int) := by simp only [IntKind.wrap_u8]; omega
        have w1r : IntKind.u8.wrap (48 + (r : Int)) = 48 + (r : Int) := by simp only [IntKind.wrap_u8]; omega
        have hcv : ∀ (v : Nat) (W : World), v ≤ 9 → (Go.convert 90 9 (.slice (some ⟨W.heap.size, 0, none⟩) 1 1)).run Tryd.prog (W.alloc (.cells #[.int .u8 (48 + (v : Int))] 5)) = Result.ok (.string ⟨#[db v]⟩) (W.alloc (.cells #[.int .u8 (48 + (v : Int))] 5)) := fun v W hv => by
          have := run_convert_bytes_back (P := Tryd.prog) (W.alloc (.cells #[.int .u8 (48 + (v : Int))] 5)) 90 9 5 ⟨W.heap.size, 0, none⟩ 1 [db v] Tryd.underlying90 Tryd.underlying5 Tryd.underlying9 (fun j hj => by
            obtain rfl : j = 0 := by simpa using hj
            refine (cell_of_row _ W.heap.size 0 _ _ (0, 0) (heap_alloc_new W _)).trans ?_
            simp
            unfold db
            rw [UInt8.toNat_ofNat']; omega)
          exact this
        clear hcc hg hqq hrr
        have sz1 : ∀ x : UInt8, (⟨#[x]⟩ : ByteArray).size = 1 := fun _ => rfl
        have hw1 : ∀ (o x : ByteArray), x.size = 1 → (o ++ x).size = o.size + 1 := fun o x h => by rw [ByteArray.size_append, h]
        by_cases h0 : 0 < k
        · have d2 : decide ((0 : Int) < (k : Int)) = true := decide_eq_true (by omega)
          have s1 : ¬ (9223372036854775807 < o.size + (⟨#[32]⟩ : ByteArray).size) := by rw [sz1]; omega
          by_cases h9 : 9 < g
          · have d1 : decide ((9 : Int) < (g : Int)) = true := decide_eq_true (by omega)
            go_upto_region 10 with fail
            obtain ⟨o1, ho1⟩ : ∃ o1, o ++ ⟨#[32]⟩ = o1 := ⟨_, rfl⟩
            have hs1 : o1.size ≤ 3 * k + 1 := by rw [← ho1, hw1 _ _ rfl]; omega
            have HO1 := hide (show o1.data.toList = toldL (L.take k) ++ [32] by rw [← ho1, Go.Joins.data_append, HOD.out])
            rw [ho1]
            clear ho1 s1
            have hq1 := hcv q wr (by omega)
            have s2 : ¬ (9223372036854775807 < o1.size + (⟨#[db q]⟩ : ByteArray).size) := by rw [sz1]; omega
            go_upto_region 12 with fail
            obtain ⟨o2, ho2⟩ : ∃ o2, o1 ++ ⟨#[db q]⟩ = o2 := ⟨_, rfl⟩
            have hs2 : o2.size ≤ 3 * k + 2 := by rw [← ho2, hw1 _ _ rfl]; omega
            have HO2 := hide (show o2.data.toList = o1.data.toList ++ [db q] by rw [← ho2, Go.Joins.data_append])
            rw [ho2]
            clear ho2 s2 hq1
            have d3 := HCC.out (wr.alloc (.cells #[.int .u8 (48 + (q : Int))] 5)) (HBR.out.alloc HBR.out.size _)
            have hr1 := hcv r (wr.alloc (.cells #[.int .u8 (48 + (q : Int))] 5)) hr9
            rw [World.size_alloc] at hr1
            have s3 : ¬ (9223372036854775807 < o2.size + (⟨#[db r]⟩ : ByteArray).size) := by rw [sz1]; omega
            go_wp2_with fail
            refine ⟨⟨k + 1, o2 ++ ⟨#[db r]⟩, by have := HKL.out; omega, rfl, ?_, by rw [hw1 _ _ rfl]; omega, rfl, (HBR.out.alloc HBR.out.size _).alloc (HBR.out.alloc HBR.out.size _).size _⟩, by have := HKL.out; show L.length - ((k : Int) + 1).toNat < L.length - (k : Int).toNat; omega⟩
            rw [Go.Joins.data_append, HO2.out, HO1.out, HST.out, if_pos h0]
            rw [digs, if_neg (by omega), HQR.out.1, HQR.out.2]
            simp [db]
          · have d1 : decide ((9 : Int) < (g : Int)) = false := decide_eq_false (by omega)
            go_upto_region 10 with fail
            obtain ⟨o1, ho1⟩ : ∃ o1, o ++ ⟨#[32]⟩ = o1 := ⟨_, rfl⟩
            have hs1 : o1.size ≤ 3 * k + 1 := by rw [← ho1, hw1 _ _ rfl]; omega
            have HO1 := hide (show o1.data.toList = toldL (L.take k) ++ [32] by rw [← ho1, Go.Joins.data_append, HOD.out])
            rw [ho1]
            clear ho1 s1
            have HGR := hide (show g = r by have := HQR.out.2; omega)
            have hr1 := hcv r wr hr9
            have s3 : ¬ (9223372036854775807 < o1.size + (⟨#[db r]⟩ : ByteArray).size) := by rw [sz1]; omega
            go_wp2_with fail
            refine ⟨⟨k + 1, o1 ++ ⟨#[db r]⟩, by have := HKL.out; omega, rfl, ?_, by rw [hw1 _ _ rfl]; omega, rfl, HBR.out.alloc HBR.out.size _⟩, by have := HKL.out; show L.length - ((k : Int) + 1).toNat < L.length - (k : Int).toNat; omega⟩
            rw [Go.Joins.data_append, HO1.out, HST.out, if_pos h0]
            rw [digs, if_pos (by omega), HGR.out]
            simp [db]
        · have d2 : decide ((0 : Int) < (k : Int)) = false := decide_eq_false (by omega)
          by_cases h9 : 9 < g
          · have d1 : decide ((9 : Int) < (g : Int)) = true := decide_eq_true (by omega)
            obtain ⟨o1, ho1⟩ : ∃ o1, o = o1 := ⟨_, rfl⟩
            rw [ho1] at HOD ⊢
            have hs1 : o1.size ≤ 3 * k + 1 := by rw [← ho1]; omega
            have HO1 := hide (show o1.data.toList = [] by rw [HOD.out, show k = 0 by omega]; rfl)
            clear ho1
            have hq1 := hcv q wr (by omega)
            have s2 : ¬ (9223372036854775807 < o1.size + (⟨#[db q]⟩ : ByteArray).size) := by rw [sz1]; omega
            go_upto_region 12 with fail
            obtain ⟨o2, ho2⟩ : ∃ o2, o1 ++ ⟨#[db q]⟩ = o2 := ⟨_, rfl⟩
            have hs2 : o2.size ≤ 3 * k + 2 := by rw [← ho2, hw1 _ _ rfl]; omega
            have HO2 := hide (show o2.data.toList = o1.data.toList ++ [db q] by rw [← ho2, Go.Joins.data_append])
            rw [ho2]
            clear ho2 s2 hq1
            have d3 := HCC.out (wr.alloc (.cells #[.int .u8 (48 + (q : Int))] 5)) (HBR.out.alloc HBR.out.size _)
            have hr1 := hcv r (wr.alloc (.cells #[.int .u8 (48 + (q : Int))] 5)) hr9
            rw [World.size_alloc] at hr1
            have s3 : ¬ (9223372036854775807 < o2.size + (⟨#[db r]⟩ : ByteArray).size) := by rw [sz1]; omega
            go_wp2_with fail
            refine ⟨⟨k + 1, o2 ++ ⟨#[db r]⟩, by have := HKL.out; omega, rfl, ?_, by rw [hw1 _ _ rfl]; omega, rfl, (HBR.out.alloc HBR.out.size _).alloc (HBR.out.alloc HBR.out.size _).size _⟩, by have := HKL.out; show L.length - ((k : Int) + 1).toNat < L.length - (k : Int).toNat; omega⟩
            rw [Go.Joins.data_append, HO2.out, HO1.out, HST.out, if_neg h0]
            rw [digs, if_neg (by omega), HQR.out.1, HQR.out.2]
            simp [db]
          · have d1 : decide ((9 : Int) < (g : Int)) = false := decide_eq_false (by omega)
            obtain ⟨o1, ho1⟩ : ∃ o1, o = o1 := ⟨_, rfl⟩
            rw [ho1] at HOD ⊢
            have hs1 : o1.size ≤ 3 * k + 1 := by rw [← ho1]; omega
            have HO1 := hide (show o1.data.toList = [] by rw [HOD.out, show k = 0 by omega]; rfl)
            clear ho1
            have HGR := hide (show g = r by have := HQR.out.2; omega)
            have hr1 := hcv r wr hr9
            have s3 : ¬ (9223372036854775807 < o1.size + (⟨#[db r]⟩ : ByteArray).size) := by rw [sz1]; omega
            go_wp2_with fail
            refine ⟨⟨k + 1, o1 ++ ⟨#[db r]⟩, by have := HKL.out; omega, rfl, ?_, by rw [hw1 _ _ rfl]; omega, rfl, HBR.out.alloc HBR.out.size _⟩, by have := HKL.out; show L.length - ((k : Int) + 1).toNat < L.length - (k : Int).toNat; omega⟩
            rw [Go.Joins.data_append, HO1.out, HST.out, if_neg h0]
            rw [digs, if_pos (by omega), HGR.out]
            simp [db]
      · obtain rfl : k = L.length := by omega
        have HOE : Hid (o = T) := hide (by
          rw [HTE.out]
          apply ByteArray.ext
          apply Array.ext'
          rw [HOD.out, List.take_of_length_le (Nat.le_refl _)])
        go_wp2_with fail
        go_ret
        exact ⟨by rw [← HOE.out]; rfl, HB.out.trans (HBR.out.mono HB.out.size)⟩
end Go.Proofs.YtffpiaipdeebcaaDoor
