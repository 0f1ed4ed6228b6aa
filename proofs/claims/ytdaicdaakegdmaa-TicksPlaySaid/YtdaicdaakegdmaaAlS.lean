/- The walks of the copy of a row, of the library's sort at dues, of All. -/
import Derived.Test.YtdaicdaakegdmaaLay
import Derived.Test.YtdaicdaakegdmaaNil
import Derived.Test.YtdaicdaakegdmaaOfL
import Derived.Test.YtdaicdaakegdmaaAgP
namespace Go.Proofs.Ytdaicdaakegdmaa
open Go.RowKit Go.Maps Go.Shelf
open Go.ChangeMaps Go.WideMaps

section
variable {α : Type} [Inhabited α]
theorem heap_put {enc : α → Value} {w : World} {g n : Nat} {d : Array α} {os : Array Obj} {cur : Array Value} {e : TypeId} {fr : Nat × Nat} (hb : w.heap[g]? = some (.cells cur e fr)) :
    (Go.Sort.grow (Go.Sort.putRow enc (Go.Sort.ahead w n) g 0 d) os).heap[g]? = some (.cells (Go.Sort.putCells enc 0 d cur) e fr) := by
  have hg : g < w.heap.size := (Array.getElem?_eq_some_iff.1 hb).1
  rw [Go.Sort.heap_grow_old _ _ (by simpa using hg)]
  simp [Go.Sort.putRow, Go.Sort.mapBlock, Go.Sort.ahead, Array.getElem?_modify, hb, Go.Sort.onCells]
theorem grown_put {enc : α → Value} {w : World} {g n : Nat} {d : Array α} {os : Array Obj} : w.grownBy (Go.Sort.grow (Go.Sort.putRow enc (Go.Sort.ahead w n) g 0 d) os) (some g) := by
  refine ⟨rfl, rfl, rfl, by simp, fun k hk hne => ?_⟩
  rw [Go.Sort.heap_grow_old _ _ (by simpa using hk)]
  have : g ≠ k := fun e => hne (by rw [e])
  simp [Go.Sort.putRow, Go.Sort.mapBlock, Go.Sort.ahead, Array.getElem?_modify, this]
theorem take_put {enc : α → Value} (cur : Array Value) (d : Array α) (h : d.size ≤ cur.size) : (Go.Sort.putCells enc 0 d cur).toList.take d.size = d.toList.map enc := by
  apply List.ext_getElem?
  intro j
  by_cases hj : j < d.size
  · rw [List.getElem?_take_of_lt hj, Array.getElem?_toList]
    simp [Go.Sort.putCells, hj, show j < cur.size by omega]
  · rw [List.getElem?_take_eq_none (by omega), List.getElem?_eq_none (by simp; omega)]
end

def encL (d : Du) : List Value := [.int .i64 d.1, .int .i64 d.2]
theorem flatK_list (d : Array Du) : (Go.Sort.flatK encL 2 d).toList = flatD d.toList := by
  apply List.ext_getElem?
  intro j
  by_cases hj : j < d.size * 2
  · have h1 := Go.Sort.get_flatK encL 2 d j hj
    rw [getElem!_pos _ j (by simpa using hj)] at h1
    rw [Array.getElem?_toList, Array.getElem?_eq_getElem (by simpa using hj), h1]
    have hk : j / 2 < d.size := by omega
    have h2 := flatD_at d.toList (j / 2) (by simpa using hk)
    rw [gD_of (by simpa using hk), Array.getElem_toList] at h2
    rw [getElem!_pos d _ hk]
    rcases Nat.mod_two_eq_zero_or_one j with h | h
    · have e : j = j / 2 * 2 := by omega
      rw [h]
      conv => rhs; rw [e]
      rw [h2.1]; rfl
    · have e : j = j / 2 * 2 + 1 := by omega
      rw [h]
      conv => rhs; rw [e]
      rw [h2.2]; rfl
  · rw [Array.getElem?_toList, Array.getElem?_eq_none (by simpa using hj), List.getElem?_eq_none (by rw [flatD_length]; simpa using hj)]

theorem swoD : Go.Sort.SWO (ltOf ordI) where
  irrefl x := by simp only [ltOf, ordI_lt]; rw [← Bool.not_eq_true, ltD_iff]; omega
  trans x y z h1 h2 := by simp only [ltOf, ordI_lt] at *; rw [ltD_iff] at *; omega
  ntrans x y z h1 h2 := by simp only [ltOf, ordI_lt] at *; rw [← Bool.not_eq_true, ltD_iff] at *; omega

/-- What the sort leaves of a row. -/
def SortP (v : Value) (S : List Du) (w : World) (e : Ending) (w' : World) : Prop := e = .returned (.tuple #[]) ∧ w.grownBy w' v.ownBlock ∧ ∀ B, (∀ g, v.ownBlock = some g → B ≤ g) → w'.ownsRow B 30 2 v S.length (flatD S)
theorem sortD_any {w : World} {B : Nat} {v : Value} {l S : List Du} (h : w.ownsRow B 30 2 v l.length (flatD l)) (hp : l.Perm S) (hup : S.Pairwise (fun a b => ltD a b = true)) (hl : l.length ≤ 2000000) :
    Calls Try.prog 35 #[v, .func (.func 36) #[] #[]] w (SortP v S w) := by
  rcases h.2 with ⟨rfl, h0⟩ | ⟨g, cap, cur, rfl, hbase, hbk, hnc, hcap, hsz, hcur⟩
  · obtain rfl := List.eq_nil_of_length_eq_zero h0
    obtain rfl := List.nil_perm.1 hp
    refine (sort_none _ w).mono ?_
    rintro e _ ⟨rfl, rfl⟩
    exact ⟨rfl, World.grownBy.refl _ _, fun B _ => World.ownsRow_nil _ _ _ _⟩
  · have hg : g < w.heap.size := lt_of_block hbk
    have hfl : (Go.Sort.flatK encL 2 l.toArray).toList = flatD l := flatK_list _
    have hH : Go.Sort.HoldsK encL 2 w g 0 l.toArray := by
      intro t ht
      have ht2 : t < l.length * 2 := by simpa using ht
      refine ⟨?_, by simp [World.frozen?, hbk]⟩
      have h1 : (cur.toList.take (l.length * 2))[t]? = (flatD l)[t]? := by rw [hcur]
      rw [List.getElem?_take_of_lt (by omega), ← hfl, Array.getElem?_toList, Array.getElem?_toList] at h1
      rw [Array.getElem?_eq_getElem ht] at h1
      rw [getElem!_pos _ t ht]
      simp only [World.cell?, hbk, Nat.zero_add, Option.isSome_none, Bool.false_eq_true, if_false]
      exact h1
    have eg : ∀ args w, (callFunc 36 args).run Try.prog w = .ok (.enter 36 args) w := enters_of Try.func36 (by kernel_rfl) rfl
    have hcmp : CmpLays Try.prog 36 #[] encL 2 ordI g 0 l.toArray.size w := by
      intro m os dk hdk x y
      refine (order_any x y _).mono ?_
      rintro e w' ⟨he, q, os', hw⟩
      exact ⟨he, q, os', hw⟩
    have hcon := shelf_slices_SortFunc encL (fun _ => rfl) (fun x v hv => by simp [encL] at hv; rcases hv with rfl | rfl <;> rfl) ordI swoD 36 #[] g 0 cap l.toArray w eg hcmp hH hg (by simp; omega)
    rw [List.size_toArray] at hcon
    refine hcon.mono ?_
    rintro e w' ⟨he, d', n, os, hpm, hs, hw⟩
    have hsz' : d'.size = l.length := by simpa using hpm.1
    have hperm : d'.toList.Perm l := by
      have h := hpm.2.2
      rw [Array.extract_eq_self_of_le (by simp [hsz']), Array.extract_eq_self_of_le (by simp)] at h
      simpa using h
    have hnd : (d'.toList).Nodup := (hperm.trans hp).nodup_iff.2 (up_nodup hup)
    have hS : d'.toList = S := by
      refine perm_sorted_eq (hperm.trans hp) ?_ hup
      unfold List.Nodup at hnd
      rw [List.pairwise_iff_getElem] at hnd ⊢
      intro i j hi hj hij
      have hne := hnd i j hi hj hij
      have hi' : i < d'.size := by simpa using hi
      have hj' : j < d'.size := by simpa using hj
      have h := hs i j (Nat.zero_le _) hij (by rw [← hsz']; exact hj')
      rw [getElem!_pos d' _ hj', getElem!_pos d' _ hi'] at h
      simp only [ltOf, ordI_lt] at h
      rw [Array.getElem_toList, Array.getElem_toList] at hne ⊢
      rw [← Bool.not_eq_true, ltD_iff] at h
      rw [ltD_iff]
      have hne2 : ¬ (d'[i].1 = d'[j].1 ∧ d'[i].2 = d'[j].2) := fun e => hne (Prod.ext e.1 e.2)
      omega
    have hw2 : w' = Go.Sort.grow (Go.Sort.putRow id (Go.Sort.ahead w n) g 0 (Go.Sort.flatK encL 2 d')) os := hw
    subst hw2
    have hSl : S.length = l.length := hp.length_eq.symm
    have hfs : (Go.Sort.flatK encL 2 d').size = l.length * 2 := by simp [hsz']
    refine ⟨he, grown_put, fun B hB => ?_⟩
    rw [hSl]
    refine ⟨by rw [flatD_length, hSl], .inr ⟨g, cap, Go.Sort.putCells id 0 (Go.Sort.flatK encL 2 d') cur, rfl, hB g rfl, heap_put hbk, hnc, hcap, by simp [Go.Sort.putCells, hsz], ?_⟩⟩
    have := take_put (enc := id) cur (Go.Sort.flatK encL 2 d') (by rw [hfs, hsz]; omega)
    rw [hfs] at this
    rw [this, List.map_id, flatK_list, hS]
/-! ### Clone -/
theorem eqnil_none (w : World) : (binOp .eql 22 (.slice none 0 0) (.slice none 0 0)).run Try.prog w = .ok (.bool true) w := Lib.run_eql_slice_nil w _ _ none 0 0 0 0 Try.underlying22
theorem eqnil_some (w : World) (a : Addr) (n c : Nat) : (binOp .eql 22 (.slice (some a) n c) (.slice none 0 0)).run Try.prog w = .ok (.bool false) w := Lib.run_eql_slice_nil w _ _ (some a) n c 0 0 Try.underlying22
def CloneP (l : List Du) (w : World) (e : Ending) (w' : World) : Prop := ∃ A c, e = .returned (.slice A l.length c) ∧ w'.ownsRow w.heap.size 30 2 (.slice A l.length c) l.length (flatD l) ∧ Below w.heap.size w w'
set_option maxHeartbeats 1000000 in
theorem clone_nil (w : World) : Calls Try.prog 34 #[.slice none 0 0] w (CloneP [] w) := by
  have h1 := eqnil_none
  go_enter Try.func34, Try.ntmps34
  go_wp2
  go_ret
  exact ⟨none, 0, rfl, World.ownsRow_nil _ _ _ _, Below.refl _ _⟩
set_option maxHeartbeats 1000000 in
theorem clone_some (a : Addr) (c : Nat) (l : List Du) (w : World) (h : Reads w w.heap.size 2 (some a) l.length (flatD l)) (hl : l.length ≤ 2000000) :
    Calls Try.prog 34 #[.slice (some a) l.length c] w (CloneP l w) := by
  have h1 := eqnil_some
  have HA := hide h
  have HO1 : Hid ((w.alloc (.cells #[] 30)).ownsRow w.heap.size 30 2 (.slice (some ⟨w.heap.size, 0, none⟩) 0 0) 0 []) := hide (World.ownsRow_made w #[] 0 (Nat.le_refl _) (by decide) rfl)
  have HB : Hid (Below w.heap.size w (w.alloc (.cells #[] 30))) := hide ((Below.refl _ _).alloc (Nat.le_refl _) _)
  have G1 : Hid (∀ u ∈ flatD l, u.oneCell' = true) := hide (flatD_one l)
  have G5 : Hid (0 + l.length ≤ maxLen) := hide (by unfold maxLen; omega)
  have G6 : Hid ((0 + l.length) * 16 ≤ 140737488355328) := hide (by omega)
  clear h
  go_enter Try.func34, Try.ntmps34
  go_wp2_with (at_builtin; refine wpList_append_any rfl (.tmp 5) (.tmp 6) 22 rfl w.heap.size 30 (.agg #[.int .i64 0, .int .i64 0]) 2 16 infoD Try.underlying22 rfl (by decide) _ 0 [] rfl HO1.out w.heap.size (some a) l.length c (flatD l) rfl (HA.out.below HB.out) G1.out G5.out G6.out HB.out.size ?_; intro v1 w1 hown1 hg1 _; have HO := hide hown1; have HG := hide hg1; clear hown1 hg1)
  go_ret
  obtain ⟨A, c', hv, _⟩ := own_sh HO.out
  subst hv
  have h5 := HO.out
  rw [Nat.zero_add, List.nil_append] at h5
  refine ⟨A, c', by rw [Nat.zero_add]; rfl, h5, HB.out.grown HG.out HB.out.size (fun j hj => by have := Option.some.inj (show some w.heap.size = some j from hj); omega)⟩
theorem clone_own {B : Nat} (v : Value) (l : List Du) (w : World) (h : w.ownsRow B 30 2 v l.length (flatD l)) (hl : l.length ≤ 2000000) :
    Calls Try.prog 34 #[v] w (CloneP l w) := by
  rcases h.2 with ⟨rfl, h0⟩ | ⟨g, cap, cur, rfl, _⟩
  · obtain rfl := List.eq_nil_of_length_eq_zero h0
    exact clone_nil w
  · exact clone_some _ cap l w (Reads.of_own h) hl
/-! ### All -/
/-- All of a calendar: a closure over a variable with its list. -/
def AllP (S : List Du) (w : World) (e : Ending) (w' : World) : Prop :=
  ∃ b A c, e = .returned (.func (.func 37) #[] #[.pointer (some ⟨b, 0, none⟩)]) ∧ w.heap.size ≤ b ∧ w'.heap[b]? = some (.cells #[.slice A S.length c] 22 (0, 0)) ∧ w'.ownsRow w.heap.size 30 2 (.slice A S.length c) S.length (flatD S) ∧ Below w.heap.size w w'
set_option maxHeartbeats 2000000 in
theorem all_any {w : World} {B p r x m : Nat} {v : Value} {now : Int} {l S : List Du} (h : Cal w B p r x m v now l) (hr : RelD l S) : Calls Try.prog 15 #[.pointer (some ⟨p, 0, none⟩)] w (AllP S w) := by
  have hl : l.length ≤ 2000000 := by have := h.len; omega
  have HB : Hid (Below w.heap.size w (w.alloc (.cells #[.slice none 0 0] 22))) := hide ((Below.refl _ _).alloc (Nat.le_refl _) _)
  have hx := heap_alloc_new w (.cells #[.slice none 0 0] 22)
  obtain ⟨_, c1, _, q0, _, _⟩ := (CalF.below h HB.out).cells
  have HCL := hide (clone_own v l _ (own_below h.row HB.out (Nat.le_refl _)) hl)
  have HX := hide hx
  have HRS := hide hr
  have hsz : (w.alloc (.cells #[.slice none 0 0] 22)).heap.size = w.heap.size + 1 := by simp
  clear h hx hr
  go_enter Try.func15, Try.ntmps15
  go_wp2_with (go_at_call 25; refine (none_any p _ _ c1).mono ?_; rintro e _ ⟨rfl, rfl⟩)
  refine (HCL.out).mono ?_
  rintro e w1 ⟨A, c, rfl, hown, hb1⟩
  have HO := hide hown
  have HB1 := hide hb1
  have hc0 := cell_of_row w1 w.heap.size 0 _ 22 (0, 0) ((hb1.block _ (by simp)).trans HX.out)
  have hf0 := frozen_of_row w1 w.heap.size 0 _ 22 ((hb1.block _ (by simp)).trans HX.out)
  have HBK : Hid (w1.heap[w.heap.size]? = some (.cells #[.slice none 0 0] 22 (0, 0))) := hide ((hb1.block _ (by simp)).trans HX.out)
  have hne : ∀ g, (Value.slice A l.length c).ownBlock = some g → g ≠ w.heap.size := fun g hg e => by have := (hown.lt g hg).1; omega
  obtain ⟨w2, hw2⟩ : ∃ w2, w2 = w1.setCell ⟨w.heap.size, 0, none⟩ (.slice A l.length c) := ⟨_, rfl⟩
  have hb2 : w2.heap[w.heap.size]? = some (.cells #[.slice A l.length c] 22 (0, 0)) := by rw [hw2, setCell_block HBK.out 0 _]; rfl
  have ho2 : w2.ownsRow w.heap.size 30 2 (.slice A l.length c) l.length (flatD l) := by
    rw [hw2]; exact ownsRow_setCell_other (own_base hown (by omega)) (fun e => hne _ e rfl) _
  have HB2 : Hid (Below w.heap.size w w2) := hide (by rw [hw2]; exact (HB.out.trans (hb1.mono (by omega))).setCell (Nat.le_refl _) _)
  have d0 := cell_of_row w2 w.heap.size 0 _ 22 (0, 0) hb2
  simp only [List.getElem?_toArray, List.getElem?_cons_zero] at d0
  have HS := hide (sortD_any ho2 HRS.out.perm HRS.out.up hl)
  have HO2 := hide ho2
  have HK2 := hide hb2
  have HW2 := hide hw2
  have HNE := hide hne
  clear hown hb1 hne hb2 ho2 hw2 HCL
  go_wp2_with fail
  rw [← HW2.out]
  go_wp2_with fail
  refine (HS.out).mono ?_
  rintro _ w3 ⟨rfl, hg3, hr3⟩
  have hr4 := hr3 w.heap.size (fun g hg => (HO2.out.lt g hg).1)
  have hll : l.length = S.length := HRS.out.perm.length_eq
  have HF : Hid (w3.heap[w.heap.size]? = some (.cells #[.slice A l.length c] 22 (0, 0)) ∧ Below w.heap.size w w3) := hide ⟨(hg3.block _ (lt_of_block HK2.out) (fun e => HNE.out _ e.symm rfl)).trans HK2.out, HB2.out.grown hg3 HB2.out.size (fun k hk => (HO2.out.lt k hk).1)⟩
  have HR4 := hide hr4
  have HLL := hide hll
  clear hg3 hr3 hr4 hll
  go_wp2_with fail
  go_ret
  refine ⟨w.heap.size, A, c, rfl, Nat.le_refl _, ?_, ?_, HF.out.2⟩
  · rw [← HLL.out]; exact HF.out.1
  · have := HR4.out
    rw [HLL.out] at this
    exact this
end Go.Proofs.Ytdaicdaakegdmaa
