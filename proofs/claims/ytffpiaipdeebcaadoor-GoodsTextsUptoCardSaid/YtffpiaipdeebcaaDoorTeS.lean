/- The walk of the document's Parse (printed by gen_tes.py). -/
import Derived.Test.YtffpiaipdeebcaaDoorTeQ
import Derived.Test.YtffpiaipdeebcaaDoorTeR
import Derived.Test.YtffpiaipdeebcaaDoorGd4
namespace Go.Proofs.YtffpiaipdeebcaaDoor
open Go.RowKit Go.Maps Go.Shelf
open Go.ChangeMaps Go.WideMaps

/-- The document's scan, the text's end told as one more byte that is no digit. -/
def scanN (t : List UInt8) (k : Nat) : ScanS := ((t ++ [0]).take k).foldl scanB ⟨0, false, []⟩
theorem scanN_zero (t : List UInt8) : scanN t 0 = ⟨0, false, []⟩ := rfl
theorem scanN_step {t : List UInt8} {k : Nat} {b : UInt8} (h : (t ++ [0])[k]? = some b) : scanN t (k + 1) = scanB (scanN t k) b := by
  unfold scanN
  rw [List.take_add_one, h, List.foldl_append]
  rfl
theorem scanN_end (t : List UInt8) : (scanN t (t.length + 1)).l = readL t := by
  have h : (t ++ [0])[t.length]? = some 0 := by simp
  rw [scanN_step h]
  unfold scanN readL
  rw [List.take_left' rfl]
  generalize t.foldl scanB ⟨0, false, []⟩ = st
  simp [scanB, scanE]
theorem scanB_n (st : ScanS) (b : UInt8) : (scanB st b).n ≤ 999 := by
  unfold scanB
  split
  · rename_i h; simp only; omega
  · simp
theorem scanB_l (st : ScanS) (b : UInt8) : (scanB st b).l.length ≤ st.l.length + 1 := by
  unfold scanB
  split
  · simp
  · simp only
    split
    · simp
    · omega
theorem scanN_n (t : List UInt8) : ∀ k, (scanN t k).n ≤ 999
  | 0 => by rw [scanN_zero]; exact Nat.zero_le _
  | k + 1 => by
    cases h : (t ++ [0])[k]? with
    | none =>
      have h2 := List.getElem?_eq_none_iff.1 h
      have := scanN_n t k
      unfold scanN at this ⊢
      rw [List.take_of_length_le h2] at this
      rwa [List.take_of_length_le (by omega)]
    | some b => rw [scanN_step h]; exact scanB_n _ _
theorem scanN_l (t : List UInt8) : ∀ k, (scanN t k).l.length ≤ k
  | 0 => by rw [scanN_zero]; exact Nat.le_refl _
  | k + 1 => by
    cases h : (t ++ [0])[k]? with
    | none =>
      have h2 := List.getElem?_eq_none_iff.1 h
      have := scanN_l t k
      unfold scanN at this ⊢
      rw [List.take_of_length_le h2] at this
      rw [List.take_of_length_le (by omega)]
      omega
    | some b => rw [scanN_step h]; have := scanB_l (scanN t k) b; have := scanN_l t k; omega
theorem scanB_dig {n : Nat} {any : Bool} {l : List Nat} {b : UInt8} (h1 : 48 ≤ b.toNat) (h2 : b.toNat ≤ 57) (h3 : n < 100) : scanB ⟨n, any, l⟩ b = ⟨10 * n + (b.toNat - 48), true, l⟩ := by
  unfold scanB; rw [if_pos ⟨h1, h2, h3⟩]
theorem scanB_add {n : Nat} {l : List Nat} {b : UInt8} (h : ¬ (48 ≤ b.toNat ∧ b.toNat ≤ 57 ∧ n < 100)) (h2 : n < 32) : scanB ⟨n, true, l⟩ b = ⟨0, false, l ++ [n]⟩ := by
  unfold scanB; rw [if_neg h, if_pos ⟨rfl, h2⟩]
theorem scanB_big {n : Nat} {l : List Nat} {b : UInt8} (h : ¬ (48 ≤ b.toNat ∧ b.toNat ≤ 57 ∧ n < 100)) (h2 : ¬ n < 32) : scanB ⟨n, true, l⟩ b = ⟨0, false, l⟩ := by
  unfold scanB; rw [if_neg h, if_neg (fun e => h2 e.2)]
theorem scanB_no {n : Nat} {l : List Nat} {b : UInt8} (h : ¬ (48 ≤ b.toNat ∧ b.toNat ≤ 57 ∧ n < 100)) : scanB ⟨n, false, l⟩ b = ⟨0, false, l⟩ := by
  unfold scanB; rw [if_neg h, if_neg (fun e => by cases e.1)]
set_option maxRecDepth 100000 in
set_option maxHeartbeats 8000000 in
theorem refparse_any (t : ByteArray) (w : World) : Calls Tryd.prog 25 #[.string t] w (ValPost (.tuple #[.int .u32 ((refParse t).1 : Nat), .int .i64 (refParse t).2]) w) := by
  obtain ⟨T, hT⟩ : ∃ T, t.data.toList = T := ⟨_, rfl⟩
  have htl : T.length = t.size := by rw [← hT]; rfl
  have HSE := hide (scanN_end T)
  have HSS := hide (fun (k : Nat) (b : UInt8) (h : (T ++ [0])[k]? = some b) => scanN_step h)
  have HSN := hide (scanN_n T)
  have HSL := hide (scanN_l T)
  have HRP : Hid (refParse t = if 200 < t.size then (0, 171) else if textG (ofG ((readL T).map Int.ofNat)).1 = t then ((ofG ((readL T).map Int.ofNat)).1, 0) else (0, 171)) := hide (by unfold refParse refG; rw [hT])
  have HTT := hide hT
  obtain ⟨R, hR⟩ : ∃ R, refParse t = R := ⟨_, rfl⟩
  rw [hR] at HRP ⊢
  clear hT hR
  go_enter Tryd.func25, Tryd.ntmps25
  by_cases hbig : 200 < t.size
  · have dz : decide ((200 : Int) < (t.size : Int)) = true := decide_eq_true (by omega)
    have HE := hide (show R = (0, 171) by rw [HRP.out, if_pos hbig])
    go_wp2_with fail
    go_ret2
    exact ⟨by rw [HE.out]; rfl, Below.refl _ _⟩
  have dz : decide ((200 : Int) < (t.size : Int)) = false := decide_eq_false (by omega)
  have HR2 := hide (show R = if textG (ofG ((readL T).map Int.ofNat)).1 = t then ((ofG ((readL T).map Int.ofNat)).1, 0) else (0, 171) by rw [HRP.out, if_neg hbig])
  have ht200 : t.size ≤ 200 := by omega
  clear hbig HRP
  go_upto_region 6 with fail
  go_loopw [4, 5, 6, 7] (fun lv nv av iv wr => ∃ (k : Nat) (A : Option Addr) (c : Nat), k ≤ t.size + 1 ∧ lv = .slice A (scanN T k).l.length c ∧ nv = .int .i64 (scanN T k).n ∧ av = .bool (scanN T k).any ∧ iv = .int .i64 k ∧ wr.ownsRow w.heap.size 3 1 (.slice A (scanN T k).l.length c) (scanN T k).l.length ((scanN T k).l.map natV) ∧ Below w.heap.size w wr) (fun _ _ _ iv _ => t.size + 1 - (intOf iv).toNat)
  case atStart => exact ⟨0, none, 0, by omega, rfl, rfl, rfl, rfl, World.ownsRow_nil _ _ _ _, Below.refl _ _⟩
  case round =>
    obtain ⟨k, A, c, hk, rfl, rfl, rfl, rfl, ho, hb⟩ := hrel
    have HO := hide ho
    have HB := hide hb
    clear ho hb
    by_cases hlt : k < t.size + 1
    · have HKL := hide hlt
      obtain ⟨b, hbk⟩ : ∃ b, (T ++ [0])[k]? = some b := ⟨(T ++ [0])[k]'(by simp; omega), List.getElem?_eq_getElem _⟩
      have HST := hide (HSS.out k b hbk)
      have hn9 := HSN.out k
      have hll := HSL.out k
      obtain ⟨⟨n, any, L⟩, hst⟩ : ∃ st, scanN T k = st := ⟨_, rfl⟩
      rw [hst] at HST hn9 hll HO
      rw [hst]
      simp only at hn9 hll HO
      simp only
      have hki : (k : Int) ≤ (t.size : Int) := by omega
      have hk1 : IntKind.i64.wrap ((k : Int) + 1) = (k : Int) + 1 := Go.IntWalk.i64_in _ (by omega)
      have ddn : decide ((k : Int) ≤ (t.size : Int)) = true := decide_eq_true hki
      have G1 : Hid (∀ u ∈ [natV n], u.oneCell' = true) := hide (fun u hu => by simp at hu; subst hu; rfl)
      have G2 : Hid (L.length + 1 ≤ maxLen) := hide (by unfold maxLen; omega)
      have G3 : Hid ((L.length + 1) * 8 ≤ 140737488355328) := hide (by omega)
      clear hst
      by_cases hin : k < t.size
      · have din : (k : Int) < (t.size : Int) := by omega
        have HBK := hide (show t.data.toList[k]? = some b by rw [HTT.out]; rwa [List.getElem?_append_left (by omega)] at hbk)
        have HIX : ∀ W, (Instr.index 9 (.string t) (.int .i64 (k : Int))).run Tryd.prog W = .ok (.int .u8 (b.toNat : Int)) W := fun W => by
          rw [run_index_string (h := Tryd.underlying9), dif_pos ⟨by omega, by omega⟩]
          have hb := (List.getElem?_eq_some_iff.1 HBK.out).2
          have hb2 : t[(k : Int).toNat]'(by rw [Int.toNat_natCast]; exact hin) = b := by rw [← hb]; rfl
          rw [hb2]
        have hb256 := b.toNat_lt
        clear hbk hin
        obtain ⟨v, hv⟩ : ∃ v, b.toNat = v := ⟨_, rfl⟩
        have HBV := hide hv
        rw [hv] at HIX hb256
        clear hv
        by_cases h1 : 48 ≤ v
        · have e1 : (48 : Int) ≤ (v : Int) := by omega
          by_cases h2 : v ≤ 57
          · have e2 : (v : Int) ≤ 57 := by omega
            by_cases h3 : n < 100
            · have e3 : (n : Int) < 100 := by omega
              have HNX := hide (HST.out.trans (scanB_dig (by rw [HBV.out]; exact h1) (by rw [HBV.out]; exact h2) h3))
              rw [HBV.out] at HNX
              have f1 : IntKind.i64.wrap (10 * (n : Int)) = 10 * (n : Int) := Go.IntWalk.i64_in _ (by omega)
              have f2 : IntKind.u8.wrap ((v : Int) - 48) = (v : Int) - 48 := by simp only [IntKind.wrap_u8]; omega
              have f3 : IntKind.i64.wrap ((v : Int) - 48) = (v : Int) - 48 := Go.IntWalk.i64_in _ (by omega)
              have f4 : IntKind.i64.wrap (10 * (n : Int) + ((v : Int) - 48)) = 10 * (n : Int) + ((v : Int) - 48) := Go.IntWalk.i64_in _ (by omega)
              have HNV := hide (show 10 * (n : Int) + ((v : Int) - 48) = ((10 * n + (v - 48) : Nat) : Int) by omega)
              clear HST h1 h2 h3
              go_wp2_with fail
              go_roundw
              case rel => exact ⟨k + 1, A, c, by have := HKL.out; omega, by rw [HNX.out], by rw [HNX.out]; first | rfl | exact congrArg (Value.int .i64) HNV.out | go_num, by rw [HNX.out], by first | rfl | go_num, by rw [HNX.out]; exact HO.out, HB.out⟩
              case measure => have := HKL.out; simp [intOf]; omega
            · have e3 : ¬ (n : Int) < 100 := by omega
              cases any
              · have HNX := hide (HST.out.trans (scanB_no (fun e => h3 e.2.2)))
                clear HST
                go_wp2_with fail
                go_roundw
                case rel => exact ⟨k + 1, A, c, by have := HKL.out; omega, by rw [HNX.out], by rw [HNX.out]; first | rfl | exact congrArg (Value.int .i64) HNV.out | go_num, by rw [HNX.out], by first | rfl | go_num, by rw [HNX.out]; exact HO.out, HB.out⟩
                case measure => have := HKL.out; simp [intOf]; omega
              · by_cases h32 : n < 32
                · exact absurd h32 (by omega)
                · have d9 : ¬ (n : Int) < 32 := by omega
                  have HNX := hide (HST.out.trans (scanB_big (fun e => h3 e.2.2) h32))
                  clear HST h32
                  go_wp2_with fail
                  go_roundw
                  case rel => exact ⟨k + 1, A, c, by have := HKL.out; omega, by rw [HNX.out], by rw [HNX.out]; first | rfl | exact congrArg (Value.int .i64) HNV.out | go_num, by rw [HNX.out], by first | rfl | go_num, by rw [HNX.out]; exact HO.out, HB.out⟩
                  case measure => have := HKL.out; simp [intOf]; omega
          · have e2 : ¬ (v : Int) ≤ 57 := by omega
            cases any
            · have HNX := hide (HST.out.trans (scanB_no (fun e => h2 (by rw [← HBV.out]; exact e.2.1))))
              clear HST
              go_wp2_with fail
              go_roundw
              case rel => exact ⟨k + 1, A, c, by have := HKL.out; omega, by rw [HNX.out], by rw [HNX.out]; first | rfl | exact congrArg (Value.int .i64) HNV.out | go_num, by rw [HNX.out], by first | rfl | go_num, by rw [HNX.out]; exact HO.out, HB.out⟩
              case measure => have := HKL.out; simp [intOf]; omega
            · by_cases h32 : n < 32
              · have d9 : (n : Int) < 32 := by omega
                have HNX := hide (HST.out.trans (scanB_add (fun e => h2 (by rw [← HBV.out]; exact e.2.1)) h32))
                clear HST h32
                go_wp2_with (at_builtin; refine wpList_append_any rfl (.tmp 52) (.tmp 54) 22 rfl w.heap.size 3 _ 1 8 infoN7 Tryd.underlying22 rfl (by decide) _ L.length (L.map natV) rfl (own_below HO.out ((Below.refl _ _).alloc (Nat.le_refl _) _) (Nat.le_refl _)) _ (some ⟨wr.heap.size, 0, none⟩) 1 1 [natV n] rfl (reads_row7 (xs := [natV n]) (heap_alloc_new wr _) rfl) G1.out G2.out G3.out (by have := HB.out.size; simp; omega) ?_; intro v1 w1 hown1 hg1 _; obtain ⟨A1, c1, hv1, _⟩ := own_sh hown1; subst hv1; have HO1 := hide hown1; have HB1 : Hid (Below w.heap.size w w1) := hide ((HB.out.alloc HB.out.size _).grown hg1 (by have := HB.out.size; simp; omega) (fun j hj => (HO.out.lt j hj).1)); clear hown1 hg1)
                go_roundw
                case rel =>
                  refine ⟨k + 1, A1, c1, by have := HKL.out; omega, by rw [HNX.out]; show _ = Value.slice A1 (L ++ [n]).length c1; rw [List.length_append]; rfl, by rw [HNX.out]; rfl, by rw [HNX.out], by first | rfl | go_num, ?_, HB1.out⟩
                  rw [HNX.out]
                  show World.ownsRow _ _ _ _ _ (L ++ [n]).length ((L ++ [n]).map natV)
                  rw [List.length_append, List.map_append]
                  exact HO1.out
                case measure => have := HKL.out; simp [intOf]; omega
              · have d9 : ¬ (n : Int) < 32 := by omega
                have HNX := hide (HST.out.trans (scanB_big (fun e => h2 (by rw [← HBV.out]; exact e.2.1)) h32))
                clear HST h32
                go_wp2_with fail
                go_roundw
                case rel => exact ⟨k + 1, A, c, by have := HKL.out; omega, by rw [HNX.out], by rw [HNX.out]; first | rfl | exact congrArg (Value.int .i64) HNV.out | go_num, by rw [HNX.out], by first | rfl | go_num, by rw [HNX.out]; exact HO.out, HB.out⟩
                case measure => have := HKL.out; simp [intOf]; omega
        · have e1 : ¬ (48 : Int) ≤ (v : Int) := by omega
          cases any
          · have HNX := hide (HST.out.trans (scanB_no (fun e => h1 (by rw [← HBV.out]; exact e.1))))
            clear HST
            go_wp2_with fail
            go_roundw
            case rel => exact ⟨k + 1, A, c, by have := HKL.out; omega, by rw [HNX.out], by rw [HNX.out]; first | rfl | exact congrArg (Value.int .i64) HNV.out | go_num, by rw [HNX.out], by first | rfl | go_num, by rw [HNX.out]; exact HO.out, HB.out⟩
            case measure => have := HKL.out; simp [intOf]; omega
          · by_cases h32 : n < 32
            · have d9 : (n : Int) < 32 := by omega
              have HNX := hide (HST.out.trans (scanB_add (fun e => h1 (by rw [← HBV.out]; exact e.1)) h32))
              clear HST h32
              go_wp2_with (at_builtin; refine wpList_append_any rfl (.tmp 52) (.tmp 54) 22 rfl w.heap.size 3 _ 1 8 infoN7 Tryd.underlying22 rfl (by decide) _ L.length (L.map natV) rfl (own_below HO.out ((Below.refl _ _).alloc (Nat.le_refl _) _) (Nat.le_refl _)) _ (some ⟨wr.heap.size, 0, none⟩) 1 1 [natV n] rfl (reads_row7 (xs := [natV n]) (heap_alloc_new wr _) rfl) G1.out G2.out G3.out (by have := HB.out.size; simp; omega) ?_; intro v1 w1 hown1 hg1 _; obtain ⟨A1, c1, hv1, _⟩ := own_sh hown1; subst hv1; have HO1 := hide hown1; have HB1 : Hid (Below w.heap.size w w1) := hide ((HB.out.alloc HB.out.size _).grown hg1 (by have := HB.out.size; simp; omega) (fun j hj => (HO.out.lt j hj).1)); clear hown1 hg1)
              go_roundw
              case rel =>
                refine ⟨k + 1, A1, c1, by have := HKL.out; omega, by rw [HNX.out]; show _ = Value.slice A1 (L ++ [n]).length c1; rw [List.length_append]; rfl, by rw [HNX.out]; rfl, by rw [HNX.out], by first | rfl | go_num, ?_, HB1.out⟩
                rw [HNX.out]
                show World.ownsRow _ _ _ _ _ (L ++ [n]).length ((L ++ [n]).map natV)
                rw [List.length_append, List.map_append]
                exact HO1.out
              case measure => have := HKL.out; simp [intOf]; omega
            · have d9 : ¬ (n : Int) < 32 := by omega
              have HNX := hide (HST.out.trans (scanB_big (fun e => h1 (by rw [← HBV.out]; exact e.1)) h32))
              clear HST h32
              go_wp2_with fail
              go_roundw
              case rel => exact ⟨k + 1, A, c, by have := HKL.out; omega, by rw [HNX.out], by rw [HNX.out]; first | rfl | exact congrArg (Value.int .i64) HNV.out | go_num, by rw [HNX.out], by first | rfl | go_num, by rw [HNX.out]; exact HO.out, HB.out⟩
              case measure => have := HKL.out; simp [intOf]; omega
      · have din : ¬ (k : Int) < (t.size : Int) := by omega
        have hb0 : b = 0 := by rw [List.getElem?_append_right (by omega), show k - T.length = 0 by omega] at hbk; simpa using hbk.symm
        clear hbk hin
        cases any
        · have HNX := hide (HST.out.trans (scanB_no (fun e => by rw [hb0] at e; exact absurd e.1 (by decide))))
          clear HST
          go_wp2_with fail
          go_roundw
          case rel => exact ⟨k + 1, A, c, by have := HKL.out; omega, by rw [HNX.out], by rw [HNX.out]; first | rfl | exact congrArg (Value.int .i64) HNV.out | go_num, by rw [HNX.out], by first | rfl | go_num, by rw [HNX.out]; exact HO.out, HB.out⟩
          case measure => have := HKL.out; simp [intOf]; omega
        · by_cases h32 : n < 32
          · have d9 : (n : Int) < 32 := by omega
            have HNX := hide (HST.out.trans (scanB_add (fun e => by rw [hb0] at e; exact absurd e.1 (by decide)) h32))
            clear HST h32
            go_wp2_with (at_builtin; refine wpList_append_any rfl (.tmp 52) (.tmp 54) 22 rfl w.heap.size 3 _ 1 8 infoN7 Tryd.underlying22 rfl (by decide) _ L.length (L.map natV) rfl (own_below HO.out ((Below.refl _ _).alloc (Nat.le_refl _) _) (Nat.le_refl _)) _ (some ⟨wr.heap.size, 0, none⟩) 1 1 [natV n] rfl (reads_row7 (xs := [natV n]) (heap_alloc_new wr _) rfl) G1.out G2.out G3.out (by have := HB.out.size; simp; omega) ?_; intro v1 w1 hown1 hg1 _; obtain ⟨A1, c1, hv1, _⟩ := own_sh hown1; subst hv1; have HO1 := hide hown1; have HB1 : Hid (Below w.heap.size w w1) := hide ((HB.out.alloc HB.out.size _).grown hg1 (by have := HB.out.size; simp; omega) (fun j hj => (HO.out.lt j hj).1)); clear hown1 hg1)
            go_roundw
            case rel =>
              refine ⟨k + 1, A1, c1, by have := HKL.out; omega, by rw [HNX.out]; show _ = Value.slice A1 (L ++ [n]).length c1; rw [List.length_append]; rfl, by rw [HNX.out]; rfl, by rw [HNX.out], by first | rfl | go_num, ?_, HB1.out⟩
              rw [HNX.out]
              show World.ownsRow _ _ _ _ _ (L ++ [n]).length ((L ++ [n]).map natV)
              rw [List.length_append, List.map_append]
              exact HO1.out
            case measure => have := HKL.out; simp [intOf]; omega
          · have d9 : ¬ (n : Int) < 32 := by omega
            have HNX := hide (HST.out.trans (scanB_big (fun e => by rw [hb0] at e; exact absurd e.1 (by decide)) h32))
            clear HST h32
            go_wp2_with fail
            go_roundw
            case rel => exact ⟨k + 1, A, c, by have := HKL.out; omega, by rw [HNX.out], by rw [HNX.out]; first | rfl | exact congrArg (Value.int .i64) HNV.out | go_num, by rw [HNX.out], by first | rfl | go_num, by rw [HNX.out]; exact HO.out, HB.out⟩
            case measure => have := HKL.out; simp [intOf]; omega
    · have ddn : decide ((k : Int) ≤ (t.size : Int)) = false := decide_eq_false (by omega)
      obtain rfl : k = t.size + 1 := by omega
      clear hlt hk
      have HEN : Hid ((scanN T (t.size + 1)).l = readL T) := hide (by rw [← htl]; exact HSE.out)
      have hll := HSL.out (t.size + 1)
      have HON : Hid (One intV wr wr.heap.size A ((scanN T (t.size + 1)).l.map Int.ofNat)) := hide (by
        have h := Reads.of_own HO.out
        unfold One
        rw [List.length_map, List.map_map]
        exact h)
      rw [HEN.out] at hll HON
      rw [HEN.out]
      have HOF := hide (refof_any A c ((readL T).map Int.ofNat) wr HON.out (by rw [List.length_map]; omega))
      rw [List.length_map] at HOF
      unfold SamePost at HOF
      obtain ⟨sg, hsg⟩ : ∃ sg, (ofG ((readL T).map Int.ofNat)).1 = sg := ⟨_, rfl⟩
      obtain ⟨se, hse⟩ : ∃ se, (ofG ((readL T).map Int.ofNat)).2 = se := ⟨_, rfl⟩
      have hs32 : sg < 4294967296 := by rw [← hsg]; exact ofG_lt _
      rw [hsg] at HR2 HOF
      rw [hse] at HOF
      have HTX := hide (reftext_any sg hs32 wr)
      unfold ValPost at HTX
      clear hsg hse
      by_cases hq : textG sg = t
      · have HE := hide (show R = (sg, 0) by rw [HR2.out, if_pos hq])
        rw [hq] at HTX
        go_wp2_with (first
          | (go_at_call 10; refine (HOF.out).mono ?_; rintro e w1 ⟨rfl, rfl⟩)
          | (go_at_call 26; refine (HTX.out).mono ?_; rintro e w2 ⟨rfl, hb2⟩; have HB2 := hide hb2; clear hb2))
        go_ret2
        exact ⟨by rw [HE.out]; rfl, HB.out.trans (HB2.out.mono HB.out.size)⟩
      · have HE := hide (show R = (0, 171) by rw [HR2.out, if_neg hq])
        have hqb : ((textG sg).toList == t.toList) = false := by
          rw [beq_eq_false_iff_ne]
          intro e
          rw [ByteArray.toList_eq, ByteArray.toList_eq] at e
          exact hq (ByteArray.ext (Array.ext' e))
        go_wp2_with (first
          | (go_at_call 10; refine (HOF.out).mono ?_; rintro e w1 ⟨rfl, rfl⟩)
          | (go_at_call 26; refine (HTX.out).mono ?_; rintro e w2 ⟨rfl, hb2⟩; have HB2 := hide hb2; clear hb2))
        go_ret2
        exact ⟨by rw [HE.out]; rfl, HB.out.trans (HB2.out.mono HB.out.size)⟩
end Go.Proofs.YtffpiaipdeebcaaDoor
