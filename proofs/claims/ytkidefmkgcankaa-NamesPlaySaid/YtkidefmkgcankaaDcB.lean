/- The walks of the document's begins, Same; plain: where a number is put in. -/
import Derived.Test.YtkidefmkgcankaaDcU
import Derived.Test.YtkidefmkgcankaaBeg
namespace Go.Proofs.Ytkidefmkgcankaa
open Go.RowKit Go.Maps Go.Shelf
open Go.ChangeMaps Go.WideMaps

theorem insD_at {l : List ByteArray} {i : Nat} : ∀ {out : List Nat} {k : Nat}, k ≤ out.length → (∀ j x, j < k → out[j]? = some x → Go.Op.bytesLess (nmB l x) (nmB l i) = true) → (k = out.length ∨ ∃ x, out[k]? = some x ∧ Go.Op.bytesLess (nmB l x) (nmB l i) = false) → insD l out i = out.take k ++ i :: out.drop k
  | [], k, hk, _, _ => by
    obtain rfl : k = 0 := by simpa using hk
    rfl
  | x :: out, 0, _, _, h => by
    have h' : Go.Op.bytesLess (nmB l x) (nmB l i) = false := by
      rcases h with h | ⟨y, hy, h⟩
      · simp at h
      · simp at hy; subst hy; exact h
    unfold insD
    rw [List.takeWhile_cons, List.dropWhile_cons, if_neg (by rw [h']; simp), if_neg (by rw [h']; simp)]
    rfl
  | x :: out, k + 1, hk, h1, h => by
    have h0 : Go.Op.bytesLess (nmB l x) (nmB l i) = true := h1 0 x (by omega) rfl
    have ih := insD_at (l := l) (i := i) (out := out) (k := k) (by simpa using hk) (fun j y hj hy => h1 (j + 1) y (by omega) (by simpa using hy)) (by
      rcases h with h | ⟨y, hy, h⟩
      · exact .inl (by simpa using h)
      · exact .inr ⟨y, by simpa using hy, h⟩)
    unfold insD at ih ⊢
    rw [List.takeWhile_cons, List.dropWhile_cons, if_pos h0, if_pos h0, List.take_succ_cons, List.drop_succ_cons, List.cons_append, List.cons_append, ih]
theorem int_new (w : World) (k : Nat) : Below w.heap.size w (w.alloc (.cells #[.int .i64 (k : Int)] 3)) ∧ Reads (w.alloc (.cells #[.int .i64 (k : Int)] 3)) (w.alloc (.cells #[.int .i64 (k : Int)] 3)).heap.size 1 (some ⟨w.heap.size, 0, none⟩) 1 [.int .i64 (k : Int)] := by
  have hx := heap_alloc_new w (.cells #[.int .i64 (k : Int)] 3)
  refine ⟨(Below.refl _ _).alloc (Nat.le_refl _) _, rfl, fun _ => ⟨_, 0, rfl, lt_of_block hx, fun j u hu => ?_⟩⟩
  match j, hu with
  | 0, hu => injection hu with hu; subst hu; exact cell_of_row _ _ 0 _ _ (0, 0) hx
  | j + 1, hu => simp at hu
theorem int_one (k : Nat) : ∀ u ∈ [Value.int .i64 (k : Int)], u.oneCell' = true := by intro u hu; obtain rfl := List.mem_singleton.1 hu; rfl
theorem nmV_one (r : List Nat) : ∀ u ∈ nmV r, u.oneCell' = true := fun u hu => by obtain ⟨i, _, rfl⟩ := List.mem_map.1 hu; rfl
theorem lt_of_cell {w : World} {a : Addr} {v : Value} (h : w.cell? a = some v) : a.block < w.heap.size := by
  rcases Nat.lt_or_ge a.block w.heap.size with h1 | h1
  · exact h1
  · rw [World.cell?, Array.getElem?_eq_none h1] at h; simp at h
set_option maxHeartbeats 2000000 in
theorem docPre_any (s t : ByteArray) (w : World) : Calls Try.prog 54 #[.string s, .string t] w (SameP (.bool (Lib.hasPrefix s.data.toList t.data.toList)) w) := by
  rw [← Lib.hasPrefix_of_take, ← Lib.size_eq, ← Lib.size_eq]
  go_enter Try.func54, Try.ntmps54
  go_wp2
  · rename_i h
    go_ret
    refine ⟨?_, rfl⟩
    show Ending.returned (Value.bool ((s.extract 0 t.size).toList == t.toList)) = _
    rw [Lib.extract_toList, Lib.toList_data]
    simp [h]
  · rename_i h
    go_ret
    refine ⟨?_, rfl⟩
    show Ending.returned (Value.bool false) = _
    simp [h]
theorem begD_lt {l : List ByteArray} {s : List UInt8} : ∀ {k x : Nat}, x ∈ begD l s k → x < k
  | 0, x, h => by simp [begD] at h
  | k + 1, x, h => by
    unfold begD at h
    split at h
    · rcases List.mem_append.1 ((insD_perm l _ k).mem_iff.1 h) with h | h
      · have := begD_lt h; omega
      · have := List.mem_singleton.1 h; omega
    · have := begD_lt h; omega
theorem nmV_take (r : List Nat) (k : Nat) : nmV (r.take k) = (nmV r).take k := by simp [nmV]
theorem nmV_drop (r : List Nat) (k : Nat) : nmV (r.drop k) = (nmV r).drop k := by simp [nmV]
theorem nmV_len (r : List Nat) : (nmV r).length = r.length := by simp [nmV]
/-- What the document's Begins leaves. -/
def BegQ (l : List ByteArray) (s : List UInt8) (w : World) (e : Ending) (w' : World) : Prop :=
  ∃ v, e = .returned v ∧ w'.ownsRow w.heap.size 3 1 v (begD l s l.length).length (nmV (begD l s l.length)) ∧ Below w.heap.size w w'
set_option maxRecDepth 100000 in
set_option maxHeartbeats 8000000 in
theorem docBegins_any {w : World} {B q : Nat} {v : Value} {l : List ByteArray} {most : Int} (h : DocT w B q v l most) (hl : l.length ≤ 2000000) (s : ByteArray) : Calls Try.prog 45 #[.pointer (some ⟨q, 0, none⟩), .string s] w (BegQ l s.data.toList w) := by
  obtain ⟨A, c, hv, _⟩ := h.row.rd
  subst hv
  have HD := hide h
  have HL := hide hl
  clear h hl
  go_enter Try.func45, Try.ntmps45
  obtain ⟨c0, c1⟩ := HD.out.cells
  go_wp2_with fail
  go_loopw [5, 6] (fun vo iv wr => ∃ k : Nat, k ≤ l.length ∧ iv = .int .i64 k ∧ wr.ownsRow w.heap.size 3 1 vo (begD l s.data.toList k).length (nmV (begD l s.data.toList k)) ∧ Below w.heap.size w wr) (fun _ iv _ => l.length - (intOf iv).toNat)
  case atStart => exact ⟨0, Nat.zero_le _, rfl, World.ownsRow_nil _ _ _ _, Below.refl _ _⟩
  case round =>
    clear c0 c1
    obtain ⟨k, hk, rfl, hown, hb⟩ := hrel
    have HDR := hide (HD.out.below hb)
    have HO := hide hown
    have HBW := hide hb
    obtain ⟨c0, c1⟩ := HDR.out.cells
    obtain ⟨A5, c5, hv5, hnc5, hA5⟩ := own_form2 hown
    subst hv5
    have HNC := hide hnc5
    have HA5 := hide hA5
    clear hnc5 hA5
    clear hown hb
    have hk0 : (0 : Int) ≤ (k : Int) := by omega
    have hk9 : (k : Int) ≤ 2000000 := by have := HL.out; omega
    by_cases hlt : k < l.length
    · obtain ⟨t, ht⟩ : ∃ t, l[k]? = some t := ⟨l[k], List.getElem?_eq_getElem hlt⟩
      obtain ⟨g, o, rfl, hgl, d0⟩ := HDR.out.row.text ht
      have hnm : nmB l k = t.data.toList := nmB_of ht
      have hki : (k : Int) < (l.length : Int) := by omega
      have HPR := hide (docPre_any t s wr)
      have HD0 := hide d0
      have HLT := hide hlt
      cases hp : Lib.hasPrefix t.data.toList s.data.toList with
      | false =>
        have HST : Hid (begD l s.data.toList (k + 1) = begD l s.data.toList k) := hide (by show (if _ then _ else _) = _; rw [hnm, if_neg (by rw [hp]; simp)])
        rw [hp] at HPR
        clear hp ht hlt hnm
        go_wp2_with fail
        refine (HPR.out).mono ?_
        rintro _ _ ⟨rfl, rfl⟩
        go_wp2_with fail
        go_roundw
        case rel => exact ⟨k + 1, HLT.out, by go_num, by rw [HST.out]; exact HO.out, HBW.out⟩
        case measure => have := HLT.out; simp [intOf]; omega
      | true =>
        have HST : Hid (begD l s.data.toList (k + 1) = insD l (begD l s.data.toList k) k) := hide (by show (if _ then _ else _) = _; rw [hnm, if_pos hp])
        have HLE := hide (begD_len l s.data.toList k)
        have HMM : Hid (∀ j x : Nat, (begD l s.data.toList k)[j]? = some x → x < k) := hide (fun j x hj => begD_lt (List.mem_of_getElem? hj))
        rw [hp] at HPR
        have HNM := hide hnm
        clear hp ht hlt
        generalize begD l s.data.toList k = out at *
        go_wp2_with fail
        refine (HPR.out).mono ?_
        rintro _ _ ⟨rfl, rfl⟩
        go_wp2_with fail
        go_loopw [7] (fun jv W => ∃ j : Nat, j ≤ out.length ∧ jv = .int .i64 j ∧ (∀ i x : Nat, i < j → out[i]? = some x → Go.Op.bytesLess (nmB l x) (nmB l k) = true) ∧ Below wr.heap.size wr W) (fun jv _ => out.length - (intOf jv).toNat)
        case atStart => exact ⟨0, Nat.zero_le _, rfl, fun i x hi => absurd hi (by omega), Below.refl _ _⟩
        case round =>
          rename World => wi
          obtain ⟨j, hj, rfl, hless, hbi⟩ := hrel
          have HLS := hide hless
          have HBI := hide hbi
          have HDI := hide (HDR.out.below hbi)
          have HOI := hide (own_below HO.out hbi (Nat.le_refl _))
          clear hless hbi c0 c1 d0
          obtain ⟨c0, c1⟩ := HDI.out.cells
          have hj0 : (0 : Int) ≤ (j : Int) := by omega
          have hj9 : (j : Int) ≤ 2000000 := by have := HL.out; have := HLE.out; have := HLT.out; omega
          by_cases hjl : j < out.length
          · obtain ⟨x, hx⟩ : ∃ x, out[j]? = some x := ⟨out[j], List.getElem?_eq_getElem hjl⟩
            have hxk := HMM.out j x hx
            obtain ⟨tx, htx⟩ : ∃ tx, l[x]? = some tx := ⟨l[x]'(by have := HLT.out; omega), List.getElem?_eq_getElem _⟩
            obtain ⟨g', o', e', _, d1⟩ := HDI.out.row.text htx
            injection e' with e'
            injection e' with e1 e2 _
            subst e1 e2
            obtain ⟨b, ob, hA5, _, hcr⟩ := (Reads.of_own HOI.out).2 (by omega)
            subst hA5
            have d2 := hcr j (.int .i64 (x : Int)) (by unfold nmV; rw [List.getElem?_map, hx]; rfl)
            have hx0 : (0 : Int) ≤ (x : Int) := by omega
            have hxl : (x : Int) < (l.length : Int) := by have := HLT.out; omega
            have hkl : (k : Int) < (l.length : Int) := by have := HLT.out; omega
            have hjo : (j : Int) < (out.length : Int) := by omega
            have hdj : decide (j < out.length) = true := decide_eq_true hjl
            have d0 := (HBI.out.cell (lt_of_cell HD0.out)).trans HD0.out
            have hnx : nmB l x = tx.data.toList := nmB_of htx
            have HJL := hide hjl
            cases hbl : Go.Op.bytesLess (nmB l x) (nmB l k) with
            | true =>
              have HXN : Hid (∀ i y : Nat, i < j + 1 → out[i]? = some y → Go.Op.bytesLess (nmB l y) (nmB l k) = true) := hide (fun i y hi hy => by
                rcases Nat.lt_or_ge i j with h1 | h1
                · exact HLS.out i y h1 hy
                · obtain rfl : i = j := by omega
                  rw [hx] at hy
                  injection hy with hy
                  rw [← hy]; exact hbl)
              have hls : Go.Op.bytesLess tx.toList t.toList = true := by rw [Lib.toList_data, Lib.toList_data, ← hnx, ← HNM.out]; exact hbl
              clear hbl hnx htx hx hcr hxk hjl
              go_wp2_with fail
              go_quiet (fail)
              go_wp2_with fail
              go_roundw
              case rel => exact ⟨j + 1, HJL.out, by go_num, HXN.out, bel_drewN HBI.out _⟩
              case measure => have := HJL.out; simp [intOf]; omega
            | false =>
              have HE : Hid (insD l out k = out.take j ++ k :: out.drop j) := hide (insD_at hj (fun i y hi hy => HLS.out i y hi hy) (.inr ⟨x, hx, hbl⟩))
              have hls : Go.Op.bytesLess tx.toList t.toList = false := by rw [Lib.toList_data, Lib.toList_data, ← hnx, ← HNM.out]; exact hbl
              have HRD := hide (Reads.of_own HO.out)
              have hjc : j ≤ c5 := Nat.le_trans hj HNC.out
              have HRa : Hid (∀ W : World, Below wr.heap.size wr W → Reads W W.heap.size 1 (some ⟨b, ob, none⟩) j (nmV (out.take j))) := hide (fun W hb => by
                have h1 := ((HRD.out.below hb).front hj).more hb.size
                rw [Nat.mul_one] at h1
                rw [nmV_take]; exact h1)
              obtain ⟨Af, hAf⟩ : ∃ Af, (if c5 = j then some (⟨b, ob, none⟩ : Addr) else some ⟨b, ob + j, none⟩) = Af := ⟨_, rfl⟩
              have HRb : Hid (∀ W : World, Below wr.heap.size wr W → Reads W W.heap.size 1 Af (out.length - j) (nmV (out.drop j))) := hide (fun W hb => by
                have h1 := ((HRD.out.below hb).cut hj HNC.out).more hb.size
                rw [Nat.mul_one] at h1
                rw [nmV_drop, ← hAf]
                by_cases hj0 : j = 0
                · subst hj0; simpa [Addr.add] using h1
                · simpa [Addr.add, hj0] using h1)
              have Ga := hide (nmV_one (out.take j))
              have Gb := hide (nmV_one (out.drop j))
              have G5 : Hid (0 + j ≤ maxLen ∧ (0 + j) * 8 ≤ 140737488355328 ∧ j + 1 ≤ maxLen ∧ (j + 1) * 8 ≤ 140737488355328 ∧ j + 1 + (out.length - j) ≤ maxLen ∧ (j + 1 + (out.length - j)) * 8 ≤ 140737488355328) := hide (by unfold maxLen; have := HLE.out; have := HLT.out; have := HL.out; omega)
              have HEND : Hid (∀ (W : World) (V : Value), W.ownsRow wr.heap.size 3 1 V (j + 1 + (out.length - j)) (nmV (out.take j) ++ [.int .i64 (k : Int)] ++ nmV (out.drop j)) → W.ownsRow w.heap.size 3 1 V (out.take j ++ k :: out.drop j).length (nmV (out.take j ++ k :: out.drop j))) := hide (fun W V h => by
                have e1 : (out.take j ++ k :: out.drop j).length = j + 1 + (out.length - j) := by
                  rw [List.length_append, List.length_cons, List.length_take, List.length_drop, Nat.min_eq_left hj]; omega
                have e2 : nmV (out.take j ++ k :: out.drop j) = nmV (out.take j) ++ [.int .i64 (k : Int)] ++ nmV (out.drop j) := by simp [nmV]
                rw [e1, e2]
                exact own_base h HBW.out.size)
              clear hbl hnx htx hx hcr hxk hjl
              go_wp2_with fail
              go_quiet (fail)
              have HZR : Hid (wr.heap.size ≤ wi.heap.size) := hide HBI.out.size
              have HBD : Hid (∀ m, Below wr.heap.size wr (wi.drewN m)) := hide (fun m => bel_drewN HBI.out m)
              go_wp2_with (first | (at_builtin; refine wpList_append_any rfl (.const (.slice none 0 0)) (.tmp 58) 59 rfl wr.heap.size 3 (.int .i64 0) 1 8 info3 Try.underlying59 rfl (by decide) _ 0 _ rfl (World.ownsRow_nil _ _ _ _) _ (some ⟨b, ob, none⟩) j c5 (nmV (out.take j)) rfl (HRa.out _ (HBD.out _)) Ga.out G5.out.1 G5.out.2.1 HZR.out ?_; intro v4 w4 ho4 hg4 hat4; rw [Nat.zero_add, List.nil_append] at ho4; have HO4 := hide ho4; have HB4 : Hid (Below wr.heap.size wr w4) := hide ((HBD.out _).grown hg4 HZR.out (fun j e => by cases e)); have HRW := hide (own_below HO4.out (int_new w4 k).1 (Nat.le_refl _)); have HNW := hide (int_new w4 k).2; have HB4a : Hid (Below wr.heap.size wr (w4.alloc (.cells #[.int .i64 (k : Int)] 3))) := hide (HB4.out.alloc HB4.out.size _); obtain ⟨PA, pc, rfl⟩ := own_shape ho4; clear ho4 hg4 hat4) | (at_builtin; refine wpList_append_any rfl (.tmp 60) (.tmp 62) 59 rfl wr.heap.size 3 (.int .i64 0) 1 8 info3 Try.underlying59 rfl (by decide) _ j _ rfl HRW.out _ _ 1 1 [.int .i64 (k : Int)] rfl HNW.out (int_one k) G5.out.2.2.1 G5.out.2.2.2.1 HB4a.out.size ?_; intro v5 w5 ho5 hg5 hat5; have HO5 := hide ho5; have HB5 : Hid (Below wr.heap.size wr w5) := hide (HB4a.out.grown hg5 HB4a.out.size (fun j e => (HRW.out.lt j e).1)); obtain ⟨QA, qc, rfl⟩ := own_shape ho5; clear ho5 hg5 hat5) | (at_builtin; refine wpList_append_any rfl (.tmp 64) (.tmp 67) 59 rfl wr.heap.size 3 (.int .i64 0) 1 8 info3 Try.underlying59 rfl (by decide) _ (j + 1) _ rfl HO5.out _ Af (out.length - j) (c5 - j) (nmV (out.drop j)) rfl (HRb.out _ HB5.out) Gb.out G5.out.2.2.2.2.1 G5.out.2.2.2.2.2 HB5.out.size ?_; intro v6 w6 ho6 hg6 hat6; have HO6 := hide ho6; have HB6 : Hid (Below wr.heap.size wr w6) := hide (HB5.out.grown hg6 HB5.out.size (fun j e => (HO5.out.lt j e).1)); obtain ⟨SA, sc, rfl⟩ := own_shape ho6; clear ho6 hg6 hat6))
              go_roundw
              case rel => exact ⟨k + 1, HLT.out, by go_num, by rw [HST.out, HE.out]; exact HEND.out _ _ HO6.out, HBW.out.trans (HB6.out.mono HBW.out.size)⟩
              case measure => have := HLT.out; simp [intOf]; omega
          · have hjj : j = out.length := by omega
            have HE : Hid (insD l out k = out.take j ++ k :: out.drop j) := hide (insD_at hj (fun i y hi hy => HLS.out i y hi hy) (.inl hjj))
            have hjo : ¬ (j : Int) < (out.length : Int) := by omega
            have hdj : decide (j < out.length) = false := decide_eq_false hjl
            rcases HA5.out with ⟨rfl, hl0, rfl⟩ | ⟨b, ob, rfl⟩
            · obtain rfl := List.eq_nil_of_length_eq_zero hl0
              obtain rfl : j = 0 := by simpa using hj
              have HEND : Hid (∀ (W : World) (V : Value), W.ownsRow wr.heap.size 3 1 V (0 + 1 + 0) ([] ++ [.int .i64 (k : Int)] ++ []) → W.ownsRow w.heap.size 3 1 V (([] : List Nat).take 0 ++ k :: ([] : List Nat).drop 0).length (nmV (([] : List Nat).take 0 ++ k :: ([] : List Nat).drop 0))) := hide (fun W V h => own_base h HBW.out.size)
              clear hjl hjj
              go_wp2_with fail
              go_quiet (fail)
              have HZR : Hid (wr.heap.size ≤ wi.heap.size) := hide HBI.out.size
              have HBD : Hid (∀ m, Below wr.heap.size wr (wi.drewN m)) := hide (fun m => bel_drewN HBI.out m)
              go_wp2_with (first | (at_builtin; refine wpList_append_any rfl (.const (.slice none 0 0)) (.tmp 58) 59 rfl wr.heap.size 3 (.int .i64 0) 1 8 info3 Try.underlying59 rfl (by decide) _ 0 _ rfl (World.ownsRow_nil _ _ _ _) _ none 0 0 [] rfl (Reads.none_ _ wr.heap.size 1) (by intro u hu; cases hu) (by decide) (by decide) HZR.out ?_; intro v4 w4 ho4 hg4 hat4; rw [Nat.zero_add, List.nil_append] at ho4; have HO4 := hide ho4; have HB4 : Hid (Below wr.heap.size wr w4) := hide ((HBD.out _).grown hg4 HZR.out (fun j e => by cases e)); have HRW := hide (own_below HO4.out (int_new w4 k).1 (Nat.le_refl _)); have HNW := hide (int_new w4 k).2; have HB4a : Hid (Below wr.heap.size wr (w4.alloc (.cells #[.int .i64 (k : Int)] 3))) := hide (HB4.out.alloc HB4.out.size _); obtain ⟨PA, pc, rfl⟩ := own_shape ho4; clear ho4 hg4 hat4) | (at_builtin; refine wpList_append_any rfl (.tmp 60) (.tmp 62) 59 rfl wr.heap.size 3 (.int .i64 0) 1 8 info3 Try.underlying59 rfl (by decide) _ 0 _ rfl HRW.out _ _ 1 1 [.int .i64 (k : Int)] rfl HNW.out (int_one k) (by decide) (by decide) HB4a.out.size ?_; intro v5 w5 ho5 hg5 hat5; have HO5 := hide ho5; have HB5 : Hid (Below wr.heap.size wr w5) := hide (HB4a.out.grown hg5 HB4a.out.size (fun j e => (HRW.out.lt j e).1)); obtain ⟨QA, qc, rfl⟩ := own_shape ho5; clear ho5 hg5 hat5) | (at_builtin; refine wpList_append_any rfl (.tmp 64) (.tmp 67) 59 rfl wr.heap.size 3 (.int .i64 0) 1 8 info3 Try.underlying59 rfl (by decide) _ (0 + 1) _ rfl HO5.out _ none 0 0 [] rfl (Reads.none_ _ wr.heap.size 1) (by intro u hu; cases hu) (by decide) (by decide) HB5.out.size ?_; intro v6 w6 ho6 hg6 hat6; have HO6 := hide ho6; have HB6 : Hid (Below wr.heap.size wr w6) := hide (HB5.out.grown hg6 HB5.out.size (fun j e => (HO5.out.lt j e).1)); obtain ⟨SA, sc, rfl⟩ := own_shape ho6; clear ho6 hg6 hat6))
              go_roundw
              case rel => exact ⟨k + 1, HLT.out, by go_num, by rw [HST.out, HE.out]; exact HEND.out _ _ HO6.out, HBW.out.trans (HB6.out.mono HBW.out.size)⟩
              case measure => have := HLT.out; simp [intOf]; omega
            have HRD := hide (Reads.of_own HO.out)
            have hjc : j ≤ c5 := Nat.le_trans hj HNC.out
            have HRa : Hid (∀ W : World, Below wr.heap.size wr W → Reads W W.heap.size 1 (some ⟨b, ob, none⟩) j (nmV (out.take j))) := hide (fun W hb => by
              have h1 := ((HRD.out.below hb).front hj).more hb.size
              rw [Nat.mul_one] at h1
              rw [nmV_take]; exact h1)
            obtain ⟨Af, hAf⟩ : ∃ Af, (if c5 = j then some (⟨b, ob, none⟩ : Addr) else some ⟨b, ob + j, none⟩) = Af := ⟨_, rfl⟩
            have HRb : Hid (∀ W : World, Below wr.heap.size wr W → Reads W W.heap.size 1 Af (out.length - j) (nmV (out.drop j))) := hide (fun W hb => by
              have h1 := ((HRD.out.below hb).cut hj HNC.out).more hb.size
              rw [Nat.mul_one] at h1
              rw [nmV_drop, ← hAf]
              by_cases hj0 : j = 0
              · subst hj0; simpa [Addr.add] using h1
              · simpa [Addr.add, hj0] using h1)
            have Ga := hide (nmV_one (out.take j))
            have Gb := hide (nmV_one (out.drop j))
            have G5 : Hid (0 + j ≤ maxLen ∧ (0 + j) * 8 ≤ 140737488355328 ∧ j + 1 ≤ maxLen ∧ (j + 1) * 8 ≤ 140737488355328 ∧ j + 1 + (out.length - j) ≤ maxLen ∧ (j + 1 + (out.length - j)) * 8 ≤ 140737488355328) := hide (by unfold maxLen; have := HLE.out; have := HLT.out; have := HL.out; omega)
            have HEND : Hid (∀ (W : World) (V : Value), W.ownsRow wr.heap.size 3 1 V (j + 1 + (out.length - j)) (nmV (out.take j) ++ [.int .i64 (k : Int)] ++ nmV (out.drop j)) → W.ownsRow w.heap.size 3 1 V (out.take j ++ k :: out.drop j).length (nmV (out.take j ++ k :: out.drop j))) := hide (fun W V h => by
              have e1 : (out.take j ++ k :: out.drop j).length = j + 1 + (out.length - j) := by
                rw [List.length_append, List.length_cons, List.length_take, List.length_drop, Nat.min_eq_left hj]; omega
              have e2 : nmV (out.take j ++ k :: out.drop j) = nmV (out.take j) ++ [.int .i64 (k : Int)] ++ nmV (out.drop j) := by simp [nmV]
              rw [e1, e2]
              exact own_base h HBW.out.size)
            clear hjl hjj
            go_wp2_with fail
            go_quiet (fail)
            have HZR : Hid (wr.heap.size ≤ wi.heap.size) := hide HBI.out.size
            have HBD : Hid (∀ m, Below wr.heap.size wr (wi.drewN m)) := hide (fun m => bel_drewN HBI.out m)
            go_wp2_with (first | (at_builtin; refine wpList_append_any rfl (.const (.slice none 0 0)) (.tmp 58) 59 rfl wr.heap.size 3 (.int .i64 0) 1 8 info3 Try.underlying59 rfl (by decide) _ 0 _ rfl (World.ownsRow_nil _ _ _ _) _ (some ⟨b, ob, none⟩) j c5 (nmV (out.take j)) rfl (HRa.out _ (HBD.out _)) Ga.out G5.out.1 G5.out.2.1 HZR.out ?_; intro v4 w4 ho4 hg4 hat4; rw [Nat.zero_add, List.nil_append] at ho4; have HO4 := hide ho4; have HB4 : Hid (Below wr.heap.size wr w4) := hide ((HBD.out _).grown hg4 HZR.out (fun j e => by cases e)); have HRW := hide (own_below HO4.out (int_new w4 k).1 (Nat.le_refl _)); have HNW := hide (int_new w4 k).2; have HB4a : Hid (Below wr.heap.size wr (w4.alloc (.cells #[.int .i64 (k : Int)] 3))) := hide (HB4.out.alloc HB4.out.size _); obtain ⟨PA, pc, rfl⟩ := own_shape ho4; clear ho4 hg4 hat4) | (at_builtin; refine wpList_append_any rfl (.tmp 60) (.tmp 62) 59 rfl wr.heap.size 3 (.int .i64 0) 1 8 info3 Try.underlying59 rfl (by decide) _ j _ rfl HRW.out _ _ 1 1 [.int .i64 (k : Int)] rfl HNW.out (int_one k) G5.out.2.2.1 G5.out.2.2.2.1 HB4a.out.size ?_; intro v5 w5 ho5 hg5 hat5; have HO5 := hide ho5; have HB5 : Hid (Below wr.heap.size wr w5) := hide (HB4a.out.grown hg5 HB4a.out.size (fun j e => (HRW.out.lt j e).1)); obtain ⟨QA, qc, rfl⟩ := own_shape ho5; clear ho5 hg5 hat5) | (at_builtin; refine wpList_append_any rfl (.tmp 64) (.tmp 67) 59 rfl wr.heap.size 3 (.int .i64 0) 1 8 info3 Try.underlying59 rfl (by decide) _ (j + 1) _ rfl HO5.out _ Af (out.length - j) (c5 - j) (nmV (out.drop j)) rfl (HRb.out _ HB5.out) Gb.out G5.out.2.2.2.2.1 G5.out.2.2.2.2.2 HB5.out.size ?_; intro v6 w6 ho6 hg6 hat6; have HO6 := hide ho6; have HB6 : Hid (Below wr.heap.size wr w6) := hide (HB5.out.grown hg6 HB5.out.size (fun j e => (HO5.out.lt j e).1)); obtain ⟨SA, sc, rfl⟩ := own_shape ho6; clear ho6 hg6 hat6))
            go_roundw
            case rel => exact ⟨k + 1, HLT.out, by go_num, by rw [HST.out, HE.out]; exact HEND.out _ _ HO6.out, HBW.out.trans (HB6.out.mono HBW.out.size)⟩
            case measure => have := HLT.out; simp [intOf]; omega
    · obtain rfl : k = l.length := by omega
      have hki : ¬ (l.length : Int) < (l.length : Int) := by omega
      go_wp2_with fail
      go_ret
      exact ⟨_, rfl, HO.out, HBW.out⟩
end Go.Proofs.Ytkidefmkgcankaa
