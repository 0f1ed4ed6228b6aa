/- The walks of Len, Find, Name of any table; prefix, comparison, clone. -/
import Derived.Test.YtkidefmkgcankaaKnown
import Derived.Test.YtkidefmkgcankaaNmP
import Derived.Test.YtkidefmkgcankaaSeqO
import Derived.Lib.Bytealg
import Derived.Laws.Strings3
import Derived.Laws.OwnMore
namespace Go.Proofs.Ytkidefmkgcankaa
open Go.RowKit Go.Maps Go.Shelf
open Go.ChangeMaps Go.WideMaps

theorem NT.keep {w w' : World} {B p m : Nat} {v : Value} {l : List ByteArray} {most : Int} {row : Option Nat} (h : NT w B p v m l most) (hg : w.grownBy w' row) (h1 : row ≠ some p) (h2 : row ≠ some m) (h3 : v.ownBlock ≠ row ∨ v.ownBlock = none) : NT w' B p v m l most := by
  obtain ⟨D, hm, hD⟩ := h.map
  exact ⟨(hg.block p (lt_of_block h.blk) (Ne.symm h1)).trans h.blk, own_far h.row hg h3, ⟨D, hm.kept hg (Ne.symm h2), hD⟩, h.base, h.nodup, h.len, h.most, h.ok⟩
theorem NT.below {w w' : World} {B p m : Nat} {v : Value} {l : List ByteArray} {most : Int} (h : NT w B p v m l most) (hb : Below w.heap.size w w') : NT w' B p v m l most :=
  h.keep (row := none) ⟨hb.os, hb.tape, hb.output, hb.size, fun k hk _ => hb.block k hk⟩ (by simp) (by simp) (by cases hv : v.ownBlock with | none => exact .inr rfl | some g => exact .inl (by simp))
/-- A call that answers and leaves the world as it was. -/
def SameP (v : Value) (w : World) (e : Ending) (w' : World) : Prop := e = .returned v ∧ w = w'
set_option maxHeartbeats 1000000 in
theorem len_any {w : World} {B p m : Nat} {v : Value} {l : List ByteArray} {most : Int} (h : NT w B p v m l most) : Calls Try.prog 18 #[.pointer (some ⟨p, 0, none⟩)] w (SameP (.int .i64 l.length) w) := by
  obtain ⟨A, c, rfl⟩ := own_shape h.row
  have c0 := h.cell 0
  have c1 := h.cell 1
  simp at c0 c1
  clear h
  go_enter Try.func18, Try.ntmps18
  go_wp2_with (go_at_call 39; refine (none_any p _ _ c1).mono ?_; rintro e w' ⟨rfl, rfl⟩)
  go_ret
  exact ⟨rfl, rfl⟩

/-- Find's answer. -/
def findR (l : List ByteArray) (s : ByteArray) : Int × Bool := match l.findIdx? (fun t => decide (t = s)) with | some i => ((i : Int), true) | none => (0, false)
theorem findR_hit {l : List ByteArray} {s : ByteArray} {i : Nat} (hn : l.Nodup) (hi : l[i]? = some s) : findR l s = ((i : Int), true) := by
  have hil := (List.getElem?_eq_some_iff.1 hi)
  have h : l.findIdx? (fun t => decide (t = s)) = some i := by
    rw [List.findIdx?_eq_some_iff_getElem]
    refine ⟨hil.1, by simp [hil.2], fun j hj => ?_⟩
    have := List.pairwise_iff_getElem.1 hn j i (Nat.lt_trans hj hil.1) hil.1 hj
    rw [hil.2] at this
    simpa using this
  unfold findR; rw [h]
theorem findR_miss {l : List ByteArray} {s : ByteArray} (hi : s ∉ l) : findR l s = (0, false) := by
  have h : l.findIdx? (fun t => decide (t = s)) = none := by
    rw [List.findIdx?_eq_none_iff]; intro t ht; simpa using fun e : t = s => hi (e ▸ ht)
  unfold findR; rw [h]
set_option maxHeartbeats 1000000 in
theorem find_miss (B p m : Nat) (v : Value) (l : List ByteArray) (most : Int) (s : ByteArray) (w : World) (h : NT w B p v m l most) (hs : s.size ≤ maxLen) (hi : s ∉ l) :
    Calls Try.prog 22 #[.pointer (some ⟨p, 0, none⟩), .string s] w (FindPost 0 false w) := by
  have c1 := h.cell 1
  simp at c1
  obtain ⟨D, hmap, hD⟩ := h.map
  have hhas : Maps.has D (kl s) = false := by rw [hD.has]; simp [hi]
  have hat0 := hide (atKey_of_not_has hhas TZ)
  have hkey := keyOf_string_mk (P := Try.prog) Try.underlying9 hs
  clear h hD hi
  go_enter Try.func22, Try.ntmps22
  go_wp2_with (first | (go_at_call 39; refine (none_any p _ _ c1).mono ?_; rintro e w' ⟨rfl, rfl⟩) | (at_lookup; refine wpList_lookup_own_ok_int _ rfl _ _ 51 rfl 9 3 .i64 law9 Try.underlying51 Try.underlying3 (zero3 _) m l.length D rfl hmap _ (kl s) rfl hkey ?_; intro c hat hwc))
  go_ret2
  have : c = (0 : Int) := (Lit.int.inj (DataW.lit.inj (hat.symm.trans hat0.out))).2
  rw [this]
  exact ⟨rfl, rfl⟩
theorem find_any (B p m : Nat) (v : Value) (l : List ByteArray) (most : Int) (s : ByteArray) (w : World) (h : NT w B p v m l most) (hs : s.size ≤ maxLen) :
    Calls Try.prog 22 #[.pointer (some ⟨p, 0, none⟩), .string s] w (FindPost (findR l s).1 (findR l s).2 w) := by
  by_cases hi : s ∈ l
  · obtain ⟨i, hil, e⟩ := List.mem_iff_getElem.1 hi
    have h1 : l[i]? = some s := by rw [List.getElem?_eq_getElem hil, e]
    rw [findR_hit h.nodup h1]
    exact find_hit B p m v l most s i w h hs h1
  · rw [findR_miss hi]
    exact find_miss B p m v l most s w h hs hi

set_option maxHeartbeats 1000000 in
theorem name_hit {w : World} {B p m : Nat} {v : Value} {l : List ByteArray} {most : Int} (h : NT w B p v m l most) (i : Nat) (s : ByteArray) (hi : l[i]? = some s) : Calls Try.prog 21 #[.pointer (some ⟨p, 0, none⟩), .int .i64 (i : Int)] w (SameP (.tuple #[.string s, .bool true]) w) := by
  have hlt : i < l.length := (List.getElem?_eq_some_iff.1 hi).1
  have HL := hide (len_any h)
  obtain ⟨A, c, rfl⟩ := own_shape h.row
  have c0 := h.cell 0
  simp at c0
  obtain ⟨b, o, hA, hb, hc⟩ := (Reads.of_own h.row).2 (by omega)
  have hx := (hc i (.string s) (by rw [List.getElem?_map, hi]; rfl)).trans (by rfl : _ = some (Value.string s))
  subst hA
  have h1 : ¬ (l.length : Int) ≤ (i : Int) := by omega
  have h2 : (i : Int) < (l.length : Int) := by omega
  have h3 : (0 : Int) ≤ (i : Int) := by omega
  have h4 : ¬ (i : Int) < 0 := by omega
  clear h hc
  go_enter Try.func21, Try.ntmps21
  go_wp2_with (go_at_call 18; refine (HL.out).mono ?_; rintro e _ ⟨rfl, rfl⟩)
  go_ret2
  exact ⟨rfl, rfl⟩

set_option maxHeartbeats 1000000 in
theorem sprefix_any (s t : ByteArray) (w : World) : Calls Try.prog 49 #[.string s, .string t] w (SameP (.bool (Lib.hasPrefix s.data.toList t.data.toList)) w) := by
  rw [← Lib.hasPrefix_of_take, ← Lib.size_eq, ← Lib.size_eq]
  go_enter Try.func49, Try.ntmps49
  go_wp2
  · rename_i h
    go_ret
    refine ⟨?_, rfl⟩
    show Ending.returned (Value.bool ((s.extract 0 t.size).toList == t.toList)) = _
    rw [Lib.extract_toList, Lib.toList_data]
    simp [h]
  · rename_i h
    go_ret
    refine ⟨?_, rfl⟩
    show Ending.returned (Value.bool false) = _
    simp [h]
set_option maxHeartbeats 1000000 in
theorem prefix_any (s t : ByteArray) (w : World) : Calls Try.prog 40 #[.string s, .string t] w (SameP (.bool (Lib.hasPrefix s.data.toList t.data.toList)) w) := by
  go_enter Try.func40, Try.ntmps40
  go_wp2_with (go_at_call 49; refine (sprefix_any s t _).mono ?_; rintro e _ ⟨rfl, rfl⟩)
  go_ret
  exact ⟨rfl, rfl⟩
set_option maxHeartbeats 1000000 in
set_option maxRecDepth 100000 in
theorem bcompare_any (a b : ByteArray) (w : World) : Calls Try.prog 52 #[.string a, .string b] w (SameP (.int .i64 (Lib.compareBytes a.data.toList b.data.toList)) w) := by
  go_enter Try.func52, Try.ntmps52
  go_wp2
  rw [run_callFunc_extern Try.func65 (by kernel_rfl) (by kernel_rfl) (by kernel_rfl) (e := Extern.BytealgCompare.compare) (by kernel_rfl), Lib.run_compareString]
  simp only [Result.andThen]
  rw [Oper.upon_value]
  go_wp2
  go_ret
  exact ⟨rfl, rfl⟩
set_option maxHeartbeats 1000000 in
theorem compare_any (a b : ByteArray) (w : World) : Calls Try.prog 43 #[.string a, .string b] w (SameP (.int .i64 (Lib.compareBytes a.data.toList b.data.toList)) w) := by
  go_enter Try.func43, Try.ntmps43
  go_wp2_with (go_at_call 52; refine (bcompare_any a b _).mono ?_; rintro e _ ⟨rfl, rfl⟩)
  go_ret
  exact ⟨rfl, rfl⟩

theorem eqnil_none (w : World) : (binOp .eql 50 (.slice none 0 0) (.slice none 0 0)).run Try.prog w = .ok (.bool true) w := Lib.run_eql_slice_nil w _ _ none 0 0 0 0 Try.underlying50
theorem eqnil_some (w : World) (a : Addr) (n c : Nat) : (binOp .eql 50 (.slice (some a) n c) (.slice none 0 0)).run Try.prog w = .ok (.bool false) w := Lib.run_eql_slice_nil w _ _ (some a) n c 0 0 Try.underlying50
def ClonePost (l : List ByteArray) (w : World) (e : Ending) (w' : World) : Prop := ∃ A c, e = .returned (.slice A l.length c) ∧ w'.ownsRow w.heap.size 9 1 (.slice A l.length c) l.length (l.map Value.string) ∧ Below w.heap.size w w'
set_option maxHeartbeats 1000000 in
theorem clone_nil (w : World) : Calls Try.prog 47 #[.slice none 0 0] w (ClonePost [] w) := by
  have h1 := eqnil_none
  go_enter Try.func47, Try.ntmps47
  go_wp2
  go_ret
  exact ⟨none, 0, rfl, World.ownsRow_nil _ _ _ _, Below.refl _ _⟩
set_option maxHeartbeats 1000000 in
theorem clone_some (a : Addr) (c : Nat) (l : List ByteArray) (w : World) (h : Reads w w.heap.size 1 (some a) l.length (l.map Value.string)) (hl : l.length ≤ 2000000) :
    Calls Try.prog 47 #[.slice (some a) l.length c] w (ClonePost l w) := by
  have h1 := eqnil_some
  have HA := hide h
  have HO1 : Hid ((w.alloc (.cells #[] 9)).ownsRow w.heap.size 9 1 (.slice (some ⟨w.heap.size, 0, none⟩) 0 0) 0 []) := hide (World.ownsRow_made w #[] 0 (Nat.le_refl _) (by decide) rfl)
  have HB : Hid (Below w.heap.size w (w.alloc (.cells #[] 9))) := hide ((Below.refl _ _).alloc (Nat.le_refl _) _)
  have G1 : Hid (∀ u ∈ l.map Value.string, u.oneCell' = true) := hide (fun u hu => by obtain ⟨s, _, rfl⟩ := List.mem_map.1 hu; rfl)
  have G5 : Hid (0 + l.length ≤ maxLen) := hide (by unfold maxLen; omega)
  have G6 : Hid ((0 + l.length) * 16 ≤ 140737488355328) := hide (by omega)
  clear h
  go_enter Try.func47, Try.ntmps47
  go_wp2_with (at_builtin; refine wpList_append_any rfl (.tmp 5) (.tmp 6) 50 rfl w.heap.size 9 _ 1 16 info9 Try.underlying50 rfl (by decide) _ 0 [] rfl HO1.out w.heap.size (some a) l.length c (l.map Value.string) rfl (HA.out.below HB.out) G1.out G5.out G6.out HB.out.size ?_; intro v1 w1 hown1 hg1 _; have HO := hide hown1; have HG := hide hg1; clear hown1 hg1)
  go_ret
  obtain ⟨A, c', hv, _⟩ := own_sh HO.out
  subst hv
  have h5 := HO.out
  rw [Nat.zero_add, List.nil_append] at h5
  refine ⟨A, c', by rw [Nat.zero_add]; rfl, h5, HB.out.grown HG.out HB.out.size (fun j hj => by have := Option.some.inj (show some w.heap.size = some j from hj); omega)⟩
theorem clone_own {B : Nat} (v : Value) (l : List ByteArray) (w : World) (h : w.ownsRow B 9 1 v l.length (l.map Value.string)) (hl : l.length ≤ 2000000) :
    Calls Try.prog 47 #[v] w (ClonePost l w) := by
  rcases h.2 with ⟨rfl, h0⟩ | ⟨g, cap, cur, rfl, _⟩
  · obtain rfl := List.eq_nil_of_length_eq_zero h0
    exact clone_nil w
  · exact clone_some _ cap l w (Reads.of_own h) hl

/-- All of a table: a closure over a variable with its names. -/
def AllP (l : List ByteArray) (w : World) (e : Ending) (w' : World) : Prop :=
  ∃ b A c, e = .returned (.func (.func 48) #[] #[.pointer (some ⟨b, 0, none⟩)]) ∧ w.heap.size ≤ b ∧ w'.heap[b]? = some (.cells #[.slice A l.length c] 50 (0, 0)) ∧ w'.ownsRow w.heap.size 9 1 (.slice A l.length c) l.length (l.map Value.string) ∧ Below w.heap.size w w'
set_option maxHeartbeats 1000000 in
theorem all_any {w : World} {B p m : Nat} {v : Value} {l : List ByteArray} {most : Int} (h : NT w B p v m l most) : Calls Try.prog 38 #[.pointer (some ⟨p, 0, none⟩)] w (AllP l w) := by
  have hl : l.length ≤ 2000000 := by have := h.len; have := h.most; omega
  have HB : Hid (Below w.heap.size w (w.alloc (.cells #[.slice none 0 0] 50))) := hide ((Below.refl _ _).alloc (Nat.le_refl _) _)
  have hx := heap_alloc_new w (.cells #[.slice none 0 0] 50)
  have hlt := lt_of_block h.blk
  have c0 := (HB.out.cell (p := ⟨p, 0, none⟩) hlt).trans (h.cell 0)
  have c1 := (HB.out.cell (p := ⟨p, 1, none⟩) hlt).trans (h.cell 1)
  simp at c0 c1
  have HCL := hide (clone_own v l _ (own_below h.row HB.out (Nat.le_refl _)) hl)
  have HX := hide hx
  have hsz : (w.alloc (.cells #[.slice none 0 0] 50)).heap.size = w.heap.size + 1 := by simp
  clear h hx
  go_enter Try.func38, Try.ntmps38
  go_wp2_with (first | (go_at_call 39; refine (none_any p _ _ c1).mono ?_; rintro e _ ⟨rfl, rfl⟩) | (go_at_call 47; refine (HCL.out).mono ?_; rintro e w1 ⟨A, c, rfl, hown, hb1⟩; have HO := hide hown; have HB1 := hide hb1; have hc0 := cell_of_row w1 w.heap.size 0 _ 50 (0, 0) ((hb1.block _ (by simp)).trans HX.out); have hf0 := frozen_of_row w1 w.heap.size 0 _ 50 ((hb1.block _ (by simp)).trans HX.out); clear hown hb1))
  go_ret
  have hblk : w1.heap[w.heap.size]? = some (.cells #[.slice none 0 0] 50 (0, 0)) := (HB1.out.block _ (by simp)).trans HX.out
  refine ⟨w.heap.size, A, c, rfl, Nat.le_refl _, setCell_block hblk 0 _, ?_, ?_⟩
  · exact ownsRow_setCell_other (own_base HO.out (by simp)) (fun e => own_ne HO.out hblk (fun cur e' => by injection e' with _ e' _; exact absurd e' (by decide)) e) _
  · exact (HB.out.trans (HB1.out.mono (by simp))).setCell (Nat.le_refl _) _
end Go.Proofs.Ytkidefmkgcankaa
