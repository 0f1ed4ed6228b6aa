/- The walks of the document's Check, New, Find, Copy, Same, Add. -/
import Derived.Test.YtkidefmkgcankaaDcT
import Derived.Deep.QuietTactic
import Derived.BigQuiet
import Derived.Deep.CutRange
namespace Go.Proofs.Ytkidefmkgcankaa
open Go.RowKit Go.Maps Go.Shelf
open Go.ChangeMaps Go.WideMaps

theorem bel_drewN {w w' : World} {B : Nat} (h : Below B w w') (q : Nat) : Below B w (w'.drewN q) := ⟨h.os, h.tape, h.output, h.size, h.block⟩
theorem ne_bytes {s t : ByteArray} (h : t ≠ s) : (t.toList == s.toList) = false := by
  rw [beq_eq_false_iff_ne, Lib.toList_data, Lib.toList_data]
  exact fun e => h (bytes_ext e)
theorem eq_bytes (s : ByteArray) : (s.toList == s.toList) = true := by simp
set_option maxHeartbeats 1000000 in
theorem docCheck_any (s : ByteArray) (w : World) : Calls Try.prog 32 #[.string s] w (SameP (.int .i64 (checkI s)) w) := by
  unfold checkI
  by_cases h1 : s.size < 1
  · have h1' : (s.size : Int) < 1 := by omega
    rw [if_pos (.inl h1)]
    go_enter Try.func32, Try.ntmps32
    go_wp2_with fail
    go_ret
    exact ⟨rfl, rfl⟩
  · have h1' : ¬ (s.size : Int) < 1 := by omega
    by_cases h2 : 64 < s.size
    · have h2' : (64 : Int) < (s.size : Int) := by omega
      rw [if_pos (.inr h2)]
      go_enter Try.func32, Try.ntmps32
      go_wp2_with fail
      go_ret
      exact ⟨rfl, rfl⟩
    · have h2' : ¬ (64 : Int) < (s.size : Int) := by omega
      rw [if_neg (by omega)]
      go_enter Try.func32, Try.ntmps32
      go_wp2_with fail
      go_ret
      exact ⟨rfl, rfl⟩
def NewT (most : Int) (w : World) (e : Ending) (w' : World) : Prop :=
  ((most < 0 ∨ 1048576 < most) ∧ e = .returned (.tuple #[.pointer none, .int .i64 2]) ∧ w = w') ∨
  (¬ (most < 0 ∨ 1048576 < most) ∧ ∃ q v, e = .returned (.tuple #[.pointer (some ⟨q, 0, none⟩), .int .i64 0]) ∧ DocT w' w.heap.size q v [] most ∧ Below w.heap.size w w')
set_option maxHeartbeats 1000000 in
theorem docNew_any (most : Int) (w : World) : Calls Try.prog 13 #[.int .i64 most] w (NewT most w) := by
  by_cases h1 : most < 0
  · have HB := hide h1
    go_enter Try.func13, Try.ntmps13
    go_wp2_with fail
    go_ret2
    exact .inl ⟨.inl HB.out, rfl, rfl⟩
  · by_cases h2 : 1048576 < most
    · have HB := hide h2
      go_enter Try.func13, Try.ntmps13
      go_wp2_with fail
      go_ret2
      exact .inl ⟨.inr HB.out, rfl, rfl⟩
    · have HB : Hid (¬ (most < 0 ∨ 1048576 < most)) := hide (by omega)
      have HX := hide (heap_alloc_new w (.cells #[.slice none 0 0, .int .i64 most] 75))
      go_enter Try.func13, Try.ntmps13
      go_wp2_with fail
      go_ret2
      exact .inr ⟨HB.out, w.heap.size, .slice none 0 0, rfl, ⟨HX.out, SeqS.of_own (World.ownsRow_nil _ _ _ _), fun g hg => by simp [Value.ownBlock] at hg, Nat.le_refl _⟩, (Below.refl _ _).alloc (Nat.le_refl _) _⟩
section
variable {w w' : World} {B q : Nat} {v : Value} {l : List ByteArray} {most : Int}
def findV (l : List ByteArray) (s : ByteArray) : Value := .tuple #[.int .i64 (findR l s).1, .bool (findR l s).2]
set_option maxRecDepth 100000 in
set_option maxHeartbeats 2000000 in
theorem docFind_any (h : DocT w B q v l most) (hn : l.Nodup) (hl : l.length ≤ 2000000) (s : ByteArray) : Calls Try.prog 30 #[.pointer (some ⟨q, 0, none⟩), .string s] w (SameP (findV l s) w) := by
  obtain ⟨A, c, hv, _⟩ := h.row.rd
  subst hv
  have HAT := hide (fun k t (hk : l[k]? = some t) => h.row.text hk)
  obtain ⟨c0, c1⟩ := h.cells
  have HND := hide hn
  have HL := hide hl
  clear h hn hl
  go_enter Try.func30, Try.ntmps30
  go_wp2_with fail
  go_loop [6] (fun iv => ∃ k : Nat, k ≤ l.length ∧ iv = .int .i64 k ∧ ∀ j : Nat, j < k → l[j]? ≠ some s) (fun iv => l.length - (intOf iv).toNat)
  case atStart => exact ⟨0, Nat.zero_le _, rfl, fun j hj => absurd hj (by omega)⟩
  case round =>
    obtain ⟨k, hk, rfl, hno⟩ := hrel
    have HNO := hide hno
    clear hno
    have hk0 : (0 : Int) ≤ (k : Int) := by omega
    have hk9 : (k : Int) ≤ 2000000 := by have := HL.out; omega
    by_cases hlt : k < l.length
    · obtain ⟨t, ht⟩ : ∃ t, l[k]? = some t := ⟨l[k], List.getElem?_eq_getElem hlt⟩
      obtain ⟨g, o, rfl, _, d0⟩ := HAT.out k t ht
      have HT := hide ht
      have HLT := hide hlt
      have hki : (k : Int) < (l.length : Int) := by omega
      by_cases he : t = s
      · subst he
        have HV : Hid (findV l t = .tuple #[.int .i64 (k : Int), .bool true]) := hide (by unfold findV; rw [findR_hit HND.out ht])
        clear ht hlt
        go_wp2_with fail
        go_ret2
        exact ⟨by rw [HV.out]; rfl, rfl⟩
      · have hee := ne_bytes he
        have HX : Hid (∀ j : Nat, j < k + 1 → l[j]? ≠ some s) := hide (fun j hj e => by
          rcases Nat.lt_or_ge j k with h1 | h1
          · exact HNO.out j h1 e
          · obtain rfl : j = k := by omega
            rw [HT.out] at e
            injection e with e
            exact he e)
        clear ht hlt he
        go_wp2_with fail
        go_roundw
        case rel => exact ⟨k + 1, HLT.out, by go_num, HX.out⟩
        case measure => have := HLT.out; simp [intOf]; omega
    · have hki : ¬ (k : Int) < (l.length : Int) := by omega
      have HV : Hid (findV l s = .tuple #[.int .i64 0, .bool false]) := hide (by
        unfold findV
        rw [findR_miss (fun hm => by
          obtain ⟨j, hj, e⟩ := List.getElem_of_mem hm
          exact HNO.out j (by omega) (by rw [List.getElem?_eq_getElem hj, e]))])
      clear hlt
      go_wp2_with fail
      go_ret2
      exact ⟨by rw [HV.out]; rfl, rfl⟩
def CopyT (B : Nat) (v : Value) (l : List ByteArray) (most : Int) (w : World) (e : Ending) (w' : World) : Prop :=
  ∃ q', e = .returned (.pointer (some ⟨q', 0, none⟩)) ∧ DocT w' B q' v l most ∧ Below w.heap.size w w' ∧ w.heap.size ≤ q'
set_option maxRecDepth 100000 in
set_option maxHeartbeats 2000000 in
theorem docCopy_any (h : DocT w B q v l most) (hBw : B ≤ w.heap.size) : Calls Try.prog 35 #[.pointer (some ⟨q, 0, none⟩)] w (CopyT B v l most w) := by
  obtain ⟨c0, c1⟩ := h.cells
  obtain ⟨A, c, hv, _, _, _⟩ := h.row.rd
  subst hv
  have HB : Hid (Below w.heap.size w (w.alloc (.cells #[.slice A l.length c, .int .i64 most] 75))) := hide ((Below.refl _ _).alloc (Nat.le_refl _) _)
  have HD : Hid (DocT (w.alloc (.cells #[.slice A l.length c, .int .i64 most] 75)) B w.heap.size (.slice A l.length c) l most) := hide ⟨heap_alloc_new w _, h.row.below HB.out, fun g hg e => by have := (h.row.at_ g hg).2; omega, hBw⟩
  clear h
  go_enter Try.func35, Try.ntmps35
  go_wp2_with fail
  go_ret
  exact ⟨w.heap.size, rfl, HD.out, HB.out, Nat.le_refl _⟩
/-- What a call that turns the document's table leaves. -/
def DocQ (B q : Nat) (v : Value) (l' : List ByteArray) (most : Int) (val : Value) (w : World) (e : Ending) (w' : World) : Prop :=
  e = .returned val ∧ ∃ v', DocT w' B q v' l' most ∧ Only (fun k => k = q) w w' ∧ ∀ g, v'.ownBlock = some g → v.ownBlock = some g ∨ w.heap.size ≤ g
theorem row_text (w : World) (s : ByteArray) : Below w.heap.size w (w.alloc (.cells #[.string s] 9)) ∧ Reads (w.alloc (.cells #[.string s] 9)) (w.alloc (.cells #[.string s] 9)).heap.size 1 (some ⟨w.heap.size, 0, none⟩) 1 [.string s] := by
  have hx := heap_alloc_new w (.cells #[.string s] 9)
  refine ⟨(Below.refl _ _).alloc (Nat.le_refl _) _, rfl, fun _ => ⟨_, 0, rfl, lt_of_block hx, fun j u hu => ?_⟩⟩
  match j, hu with
  | 0, hu => injection hu with hu; subst hu; exact cell_of_row _ _ 0 _ _ (0, 0) hx
  | j + 1, hu => simp at hu
theorem text_one (l : List ByteArray) : ∀ u ∈ l.map Value.string, u.oneCell' = true := fun u hu => by obtain ⟨s, _, rfl⟩ := List.mem_map.1 hu; rfl
set_option maxRecDepth 100000 in
set_option maxHeartbeats 4000000 in
theorem docAdd_any (h : DocT w B q v l most) (hn : l.Nodup) (hlm : (l.length : Int) ≤ most) (hl : l.length ≤ 2000000) (hBw : B ≤ w.heap.size) (s : ByteArray) :
    Calls Try.prog 29 #[.pointer (some ⟨q, 0, none⟩), .string s] w (DocQ B q v (addRes l most s).2.2 most (.tuple #[.int .i64 (addRes l most s).1, .int .i64 (addRes l most s).2.1]) w) := by
  have HCK := hide (docCheck_any s w)
  have HFD := hide (docFind_any h hn hl s)
  have HD := hide h
  obtain ⟨c0, c1⟩ := h.cells
  have HSM : Hid (∀ (k : Nat) (a b : Int), addRes l most s = (a, b, l) → DocQ B q v (addRes l most s).2.2 most (.tuple #[.int .i64 (addRes l most s).1, .int .i64 (addRes l most s).2.1]) w (.returned (.tuple #[.int .i64 a, .int .i64 b])) (w.drewN k)) := hide (fun k a b e => by
    rw [e]
    exact ⟨rfl, v, HD.out.below (bel_drewN (Below.refl _ _) k), Only.of_below (bel_drewN (Below.refl _ _) k), fun g hg => .inl hg⟩)
  unfold checkI at HCK
  by_cases h1 : s.size < 1 ∨ 64 < s.size
  · rw [if_pos h1] at HCK
    have HE : Hid (addRes l most s = (0, 2, l)) := hide (by unfold addRes; rw [if_pos h1])
    clear h h1
    go_enter Try.func29, Try.ntmps29
    go_wp2_with fail
    refine (HCK.out).mono ?_
    rintro _ _ ⟨rfl, rfl⟩
    go_wp2_with fail
    go_ret2
    exact HSM.out 0 0 2 HE.out
  · rw [if_neg h1] at HCK
    by_cases h2 : s ∈ l
    · have HE : Hid (addRes l most s = (0, 5, l)) := hide (by unfold addRes; rw [if_neg h1, if_pos h2])
      obtain ⟨i, hi, he⟩ := List.getElem_of_mem h2
      have hfv : findV l s = .tuple #[.int .i64 (i : Int), .bool true] := by unfold findV; rw [findR_hit hn (by rw [List.getElem?_eq_getElem hi, he])]
      rw [hfv] at HFD
      clear h h1 h2 hfv he
      go_enter Try.func29, Try.ntmps29
      go_wp2_with fail
      refine (HCK.out).mono ?_
      rintro _ _ ⟨rfl, rfl⟩
      go_wp2_with fail
      refine (HFD.out).mono ?_
      rintro _ _ ⟨rfl, rfl⟩
      go_wp2_with fail
      go_ret2
      exact HSM.out 0 0 5 HE.out
    · have hfv : findV l s = .tuple #[.int .i64 0, .bool false] := by unfold findV; rw [findR_miss h2]
      rw [hfv] at HFD
      obtain ⟨A, c, hv, hlc, hA, hrd⟩ := h.row.rd
      subst hv
      by_cases h3 : (l.length : Int) = most
      · have HE : Hid (addRes l most s = (0, 3, l)) := hide (by unfold addRes; rw [if_neg h1, if_neg h2, if_pos h3])
        have hge : decide (most ≤ (l.length : Int)) = true := decide_eq_true (by omega)
        clear h h1 h2 hfv h3 hrd hA
        go_enter Try.func29, Try.ntmps29
        go_wp2_with fail
        refine (HCK.out).mono ?_
        rintro _ _ ⟨rfl, rfl⟩
        go_wp2_with fail
        refine (HFD.out).mono ?_
        rintro _ _ ⟨rfl, rfl⟩
        go_wp2_with fail
        go_quiet (fail)
        go_wp2_with fail
        go_ret2
        exact HSM.out _ 0 3 HE.out
      · have HE : Hid (addRes l most s = ((l.length : Int), (0 : Int), l ++ [s])) := hide (by unfold addRes; rw [if_neg h1, if_neg h2, if_neg h3])
        have hge : decide (most ≤ (l.length : Int)) = false := decide_eq_false (by omega)
        have HRD := hide hrd
        have HL := hide hl
        clear h h1 h2 hfv h3 hrd hA
        go_enter Try.func29, Try.ntmps29
        go_wp2_with fail
        refine (HCK.out).mono ?_
        rintro _ _ ⟨rfl, rfl⟩
        go_wp2_with fail
        refine (HFD.out).mono ?_
        rintro _ _ ⟨rfl, rfl⟩
        go_wp2_with fail
        go_quiet (fail)
        have HB0 : Hid (Below w.heap.size w (w.drewN nq)) := hide (bel_drewN (Below.refl _ _) nq)
        have HD1 := hide (HD.out.below HB0.out)
        have HR1 : Hid (Reads (w.drewN nq) (w.drewN nq).heap.size 1 A l.length (l.map Value.string)) := hide (HRD.out.below HB0.out)
        clear c0 c1
        generalize w.drewN nq = w1 at *
        obtain ⟨c0, c1⟩ := HD1.out.cells
        have G1 : Hid (∀ u ∈ l.map Value.string, u.oneCell' = true) := hide (text_one l)
        have G2 : Hid (0 + l.length ≤ maxLen ∧ l.length + 1 ≤ maxLen) := hide (by unfold maxLen; have := HL.out; omega)
        have G3 : Hid ((0 + l.length) * 16 ≤ 140737488355328 ∧ (l.length + 1) * 16 ≤ 140737488355328) := hide (by have := HL.out; omega)
        have G4 : Hid (∀ u ∈ [Value.string s], u.oneCell' = true) := hide (fun u hu => by obtain rfl := List.mem_singleton.1 hu; rfl)
        have hl9 : (l.length : Int) ≤ 2000000 := by have := HL.out; omega
        go_upto_region 12 with (first | (at_builtin; refine wpList_append_any rfl (.const (.slice none 0 0)) (.tmp 37) 50 rfl w1.heap.size 9 (.string ⟨#[]⟩) 1 16 info9 Try.underlying50 rfl (by decide) _ 0 [] rfl (World.ownsRow_nil _ _ _ _) w1.heap.size A l.length c (l.map Value.string) rfl HR1.out G1.out G2.out.1 G3.out.1 (Nat.le_refl _) ?_; intro v2 w2 ho2 hg2 hat2; rw [Nat.zero_add, List.nil_append] at ho2; have HO2 := hide ho2; have HB2 : Hid (Below w1.heap.size w1 w2) := hide ((Below.refl _ w1).grown hg2 (Nat.le_refl _) (fun k e => by cases e)); have HRN := hide (row_text w2 s); have HO2b := hide (own_below ho2 HRN.out.1 (Nat.le_refl _)); have HZ2 : Hid (w1.heap.size ≤ (w2.alloc (.cells #[.string s] 9)).heap.size) := hide (Nat.le_trans HB2.out.size HRN.out.1.size); obtain ⟨A2, cc2, rfl⟩ := own_shape ho2; clear ho2 hg2 hat2) | (at_builtin; refine wpList_append_any rfl (.tmp 38) (.tmp 40) 50 rfl w1.heap.size 9 (.string ⟨#[]⟩) 1 16 info9 Try.underlying50 rfl (by decide) _ l.length (l.map Value.string) rfl HO2b.out (w2.alloc (.cells #[.string s] 9)).heap.size (some ⟨w2.heap.size, 0, none⟩) 1 1 [.string s] rfl HRN.out.2 G4.out G2.out.2 G3.out.2 HZ2.out ?_; intro v3 w3 ho3 hg3 hat3; have HO3 := hide ho3; have HB3 : Hid (Below w1.heap.size w1 w3) := hide ((HB2.out.trans (HRN.out.1.mono HB2.out.size)).grown hg3 HZ2.out (fun k e => (HO2b.out.lt k e).1)); have HD3 := hide (HD1.out.below HB3.out); have f0 := frozen_of_row w3 q 0 _ _ HD3.out.blk; have d0 := HD3.out.cells.1; obtain ⟨A3, cc3, rfl⟩ := own_shape ho3; clear ho3 hg3 hat3))
        have hne : (Value.slice A3 (l.length + 1) cc3).ownBlock ≠ some q := own_ne HO3.out HD3.out.blk (fun cur e => by injection e with _ e _; exact absurd e (by decide))
        have HF : Hid (DocQ B q (.slice A l.length c) (l ++ [s]) most (.tuple #[.int .i64 (l.length : Int), .int .i64 0]) w (.returned (.tuple #[.int .i64 (l.length : Int), .int .i64 0])) (w3.setCell ⟨q, 0, none⟩ (.slice A3 (l.length + 1) cc3))) := hide (by
          have hz := HB0.out.size
          refine ⟨rfl, .slice A3 (l.length + 1) cc3, ⟨?_, ?_, fun g hg e => hne (e ▸ hg), HD.out.base⟩, Only.set (S := fun k => k = q) (Only.of_below (HB0.out.trans (HB3.out.mono hz))) ⟨q, 0, none⟩ rfl _, fun g hg => .inr (Nat.le_trans hz (HO3.out.lt g hg).1)⟩
          · rw [setCell_block HD3.out.blk 0 _]
            rfl
          · refine SeqS.of_own ?_
            rw [List.length_append, List.map_append]
            exact ownsRow_setCell_other (own_base HO3.out (Nat.le_trans hBw hz)) hne _)
        have e0 : (w3.setCell ⟨q, 0, none⟩ (.slice A3 (l.length + 1) cc3)).cell? ⟨q, 0, none⟩ = some (.slice A3 (l.length + 1) cc3) := World.cell?_setCell_same' w3 ⟨q, 0, none⟩ _ (by rw [d0]; rfl)
        clear c0 c1 d0 f0 hne
        generalize w3.setCell ⟨q, 0, none⟩ (.slice A3 (l.length + 1) cc3) = w4 at *
        go_wp2_with fail
        go_ret2
        rw [HE.out]
        exact HF.out
end
end Go.Proofs.Ytkidefmkgcankaa
