/- The law ClearTops: its walk. -/
import Derived.Test.YtkjmpenaifhfjaaAllC
import Derived.Test.YtkjmpenaifhfjaaTopW
import Derived.Test.YtkjmpenaifhfjaaCmpW
import Derived.Test.YtkjmpenaifhfjaaLawPart
namespace Go.Proofs.Ytkjmpenaifhfjaa
open Go.RowKit Go.Maps Go.Shelf Go.ChangeShapes Go.WideShapes Go.ChangeAt Go.Joins
open Go.ChangeMaps Go.WideMaps

attribute [local go_sem] Oper.semAt_some

theorem cellsInt : Try.prog.cellsOf 3 = 1 := by kernel_rfl
section
variable {H : Type} {enc : TypeId × Value → H} {w : World} {base : Nat} {spare : Nat → Bool} {held : Bool}
/-- A slice of ints reads as a list. -/
theorem open_list {fuel : Nat} {cs : List Value} {x : DataW H × List MemPlace} (h : DataW.trod enc Try.prog w base spare held fuel 33 cs = some x) :
    ∃ (A : Option Addr) (c : Nat) (zs : List Int), cs = [.slice A zs.length c] ∧ One intV w w.heap.size A zs ∧ zs.length ≤ maxLen := by
  rcases open_ints Try.underlying33 Try.underlying3 cellsInt h with ⟨rfl, hx⟩ | ⟨a, len, cap, zs, rfl, _, hl, hm, hz, hx, hcell, hwz⟩
  · exact ⟨none, 0, [], rfl, by simpa using One.none_ w w.heap.size, by simp [maxLen]⟩
  · have hz' : len ≤ zs.length := by
      rw [hz]
      split <;> omega
    have hlen : (zs.take len).length = len := by simp; omega
    refine ⟨some a, cap, zs.take len, by rw [hlen], ?_, by rw [hlen]; omega⟩
    unfold One
    rw [hlen]
    refine ⟨by simp; omega, fun hn => ?_⟩
    obtain ⟨b, off, rfl, hc⟩ := ints_at hcell (by omega)
    refine ⟨b, off, rfl, lt_of_cell (hc 0 (by omega)), fun j u hu => ?_⟩
    rw [List.getElem?_map, List.getElem?_take] at hu
    split at hu
    · rename_i hj
      have hjz : j < zs.length := by omega
      rw [List.getElem?_eq_getElem hjz] at hu
      injection hu with hu
      rw [hc j hjz, ← hu, List.getD_eq_getElem?_getD, List.getElem?_eq_getElem hjz]
      rfl
    · simp at hu
end
theorem fit_len {ls : List (List Offer)} {d : List Int} {v : Int} (h : fitW ls d 0 0 = some v) : d.length = ls.length := by
  by_cases e : d.length = ls.length
  · exact e
  · rw [fitW_len ls d 0 0 e] at h; cases h

theorem all_is {n : Int} {ls : List (List Offer)} (h : GoodI n ls) : allI n = allG n.toNat := by unfold allI; rw [if_neg (by have := h.lo; have := h.hi; omega)]
theorem best_ok {n : Int} {ls : List (List Offer)} (hw : BWide ls) (h : instE n ls = 0) : bestI n ls = ((choiceW ls (allG n.toNat), bestW ls (allG n.toNat)), 0) := by
  have hg := instE_good hw h
  have h1 : mayE n ls 0 (allI n) = 0 := by
    unfold mayE
    rw [if_neg (by simpa using h), if_neg]
    rintro (h1 | h1 | h1)
    · omega
    · omega
    · rw [all_is hg, within_all _ _ (allG_lt _ (by have := hg.hi; omega)) (by have := hg.hi; omega), decide_eq_false_iff_not] at h1
      apply h1
      unfold allG
      have := Nat.one_le_two_pow (n := n.toNat)
      omega
  unfold bestI partI
  rw [if_neg (by simpa using h1), all_is hg]
  simp [choiceK]
theorem best_bad {n : Int} {ls : List (List Offer)} (h : instE n ls ≠ 0) : bestI n ls = (([], 0), instE n ls) := by
  have h1 : mayE n ls 0 (allI n) = instE n ls := by unfold mayE; rw [if_pos h]
  unfold bestI partI
  rw [h1, if_pos h]

/-- The law's own record: what was asked, the answer so far. -/
structure TopR (w : World) (n : Int) (A : Option Addr) (m c : Nat) (b : Bool) (W : World) : Prop where
  bel : Below w.heap.size w W
  x : W.heap[w.heap.size]? = some (.cells #[.int .i64 n, .slice A m c] 24 (0, 0))
  r : W.heap[w.heap.size + 1]? = some (.cells #[.bool b] 4 (0, 0))
section
variable {w W W' : World} {n : Int} {A : Option Addr} {m c : Nat} {b : Bool}
theorem TopR.below (h : TopR w n A m c b W) (hb : Below W.heap.size W W') : TopR w n A m c b W' := ⟨h.bel.trans (hb.mono h.bel.size), (hb.block _ (lt_of_block h.x)).trans h.x, (hb.block _ (lt_of_block h.r)).trans h.r⟩
theorem TopR.says (h : TopR w n A m c b W) (b' : Bool) : TopR w n A m c b' (W.setCell ⟨w.heap.size + 1, 0, none⟩ (.bool b')) :=
  ⟨h.bel.setCell (by show w.heap.size ≤ w.heap.size + 1; omega) _, (Below.heap_setCell _ _ _ _ (by show w.heap.size ≠ w.heap.size + 1; omega)).trans h.x, setCell_block h.r 0 _⟩
theorem TopR.cells (h : TopR w n A m c b W) : W.cell? ⟨w.heap.size, 0, none⟩ = some (.int .i64 n) ∧ W.cell? ⟨w.heap.size, 1, none⟩ = some (.slice A m c) ∧ W.cell? ⟨w.heap.size + 1, 0, none⟩ = some (.bool b) ∧ W.frozen? ⟨w.heap.size + 1, 0, none⟩ = false :=
  ⟨cell_of_row W _ 0 _ _ (0, 0) h.x, cell_of_row W _ 1 _ _ (0, 0) h.x, cell_of_row W _ 0 _ _ (0, 0) h.r, frozen_of_row W _ 0 _ _ h.r⟩
theorem TopR.lt (h : TopR w n A m c b W) : w.heap.size + 1 < W.heap.size := lt_of_block h.r
end

theorem less_none {n : Nat} (hn : n ≤ 32) : lessG (allG n) 0 = allG n := lessG_zero _ (allG_lt n hn)
theorem two_pos (n : Nat) : 0 < 2 ^ n := Nat.lt_of_lt_of_le Nat.zero_lt_one Nat.one_le_two_pow
/-- Every choice that is told is one, of just the greatest worth. -/
theorem told_fit {n : Int} {ls : List (List Offer)} (hI : GoodI n ls) {d : List Int} (hd : d ∈ choicesW ls (allG n.toNat)) : fitW ls d 0 0 = some (bestW ls (allG n.toNat)) := by
  have hn : n.toNat ≤ 32 := by have := hI.hi; omega
  have := fitW_all hn ls 0 0 d hI.top (two_pos _) (by rw [less_none hn]; exact hd)
  rw [less_none hn, Int.zero_add] at this
  exact this
theorem best_told (ls : List (List Offer)) (f : Nat) : choiceW ls f ∈ choicesW ls f := List.mem_of_mem_head? (choicesW_first ls f)
theorem any_fit {n : Int} {ls : List (List Offer)} (hI : GoodI n ls) {d : List Int} {v : Int} (h : fitW ls d 0 0 = some v) : v ≤ bestW ls (allG n.toNat) ∧ (v = bestW ls (allG n.toNat) → cmpL (choiceW ls (allG n.toNat)) d ≤ 0) := by
  have hn : n.toNat ≤ 32 := by have := hI.hi; omega
  have := fitW_best hn ls d 0 0 v hI.top (two_pos _) h
  rw [less_none hn, Int.zero_add] at this
  exact this
theorem best_bd {n : Int} {ls : List (List Offer)} (hI : GoodI n ls) (f : Nat) : 0 ≤ bestW ls f ∧ bestW ls f ≤ 35184372088832 := by
  have := bestW_bd ls hI.good f
  have := hI.few
  omega
theorem pre_mem {all pre : List (List Int)} {d : List Int} (h : pre ++ [d] <+: all) : d ∈ all := h.subset (by simp)
theorem pre_head {all : List (List Int)} {d x : List Int} (h : [] ++ [d] <+: all) (hx : all.head? = some x) : d = x := by
  obtain ⟨r, rfl⟩ := h
  simpa using hx
theorem own_same {W W' : World} {base e size n : Nat} {v : Value} {xs : List Value} (h : W.ownsRow base e size v n xs) (hs : ∀ k, base ≤ k → W'.heap[k]? = W.heap[k]?) : W'.ownsRow base e size v n xs := by
  obtain ⟨h1, h2⟩ := h
  refine ⟨h1, ?_⟩
  rcases h2 with h2 | ⟨g, cap, cur, a1, a2, a3, a4⟩
  · exact .inl h2
  · exact .inr ⟨g, cap, cur, a1, a2, (hs g a2).trans a3, a4⟩
/-- What the going over's rounds stand on. -/
structure TopI (w : World) (n : Int) (A : Option Addr) (m c : Nat) (q5 : Nat) (A3 : Option Addr) (c3 : Nat) (bw : Int) (q7 q12 : Nat) (ch : List Int) (k : Nat) (W : World) : Prop where
  r : TopR w n A m c false W
  k5 : W.heap[q5]? = some (.cells #[.slice A3 ch.length c3, .int .i64 bw] 35 (0, 0))
  k7 : W.heap[q7]? = some (.cells #[.int .i64 bw] 2 (0, 0))
  k12 : W.heap[q12]? = some (.cells #[.int .i64 (k : Int)] 3 (0, 0))
  own : W.ownsRow w.heap.size 3 1 (.slice A3 ch.length c3) ch.length (ch.map (Value.int .i64))
  lo : (∀ g, (Value.slice A3 ch.length c3).ownBlock = some g → g < q12) ∧ q5 < q12 ∧ q7 < q12 ∧ w.heap.size + 1 < q12
section
variable {w W W' : World} {n : Int} {A : Option Addr} {m c : Nat} {q5 : Nat} {A3 : Option Addr} {c3 : Nat} {bw : Int} {q7 q12 : Nat} {ch : List Int} {k : Nat}
theorem TopI.low (h : TopI w n A m c q5 A3 c3 bw q7 q12 ch k W) {S : Nat} (hS : q12 < S) (hb : Below S W W') : TopI w n A m c q5 A3 c3 bw q7 q12 ch k W' := by
  obtain ⟨l1, l2, l3, l4⟩ := h.lo
  refine ⟨⟨h.r.bel.trans (hb.mono (by omega)), (hb.block _ (by omega)).trans h.r.x, (hb.block _ (by omega)).trans h.r.r⟩, (hb.block _ (by omega)).trans h.k5, (hb.block _ (by omega)).trans h.k7, (hb.block _ hS).trans h.k12, ?_, h.lo⟩
  obtain ⟨h1, h2⟩ := h.own
  refine ⟨h1, ?_⟩
  rcases h2 with h2 | ⟨g, cap, cur, a1, a2, a3, a4⟩
  · exact .inl h2
  · exact .inr ⟨g, cap, cur, a1, a2, (hb.block g (by have := l1 g (by rw [a1]; rfl); omega)).trans a3, a4⟩
theorem TopI.below (h : TopI w n A m c q5 A3 c3 bw q7 q12 ch k W) (hb : Below W.heap.size W W') : TopI w n A m c q5 A3 c3 bw q7 q12 ch k W' := h.low (lt_of_block h.k12) hb
theorem TopI.next (h : TopI w n A m c q5 A3 c3 bw q7 q12 ch k W) (k' : Nat) : TopI w n A m c q5 A3 c3 bw q7 q12 ch k' (W.setCell ⟨q12, 0, none⟩ (.int .i64 (k' : Int))) := by
  obtain ⟨l1, l2, l3, l4⟩ := h.lo
  have key : ∀ {j : Nat}, j ≠ q12 → (W.setCell ⟨q12, 0, none⟩ (.int .i64 (k' : Int))).heap[j]? = W.heap[j]? := fun hj => Below.heap_setCell W _ _ _ hj
  exact ⟨⟨h.r.bel.setCell (by show w.heap.size ≤ q12; omega) _, (key (by omega)).trans h.r.x, (key (by omega)).trans h.r.r⟩, (key (by omega)).trans h.k5, (key (by omega)).trans h.k7, setCell_block h.k12 0 _, ownsRow_setCell_other h.own (fun e => by have := l1 _ e; simp at this) _, h.lo⟩
theorem TopI.cells (h : TopI w n A m c q5 A3 c3 bw q7 q12 ch k W) : W.cell? ⟨q5, 0, none⟩ = some (.slice A3 ch.length c3) ∧ W.cell? ⟨q7, 0, none⟩ = some (.int .i64 bw) ∧ W.cell? ⟨q12, 0, none⟩ = some (.int .i64 (k : Int)) ∧ W.frozen? ⟨q12, 0, none⟩ = false :=
  ⟨cell_of_row W _ 0 _ _ (0, 0) h.k5, cell_of_row W _ 0 _ _ (0, 0) h.k7, cell_of_row W _ 0 _ _ (0, 0) h.k12, frozen_of_row W _ 0 _ _ h.k12⟩
end
theorem callsIn_in {m l' : Nat} {P : Program} {f : FuncId} {args : Array Value} {w : World} {R : Ending → World → Prop} (h : Calls P f args w R) : CallsIn (Fence.wide.inRound l') m P f args w R :=
  (callsIn_wide (n := m)).2 h

/-- The law says yes. -/
theorem tops_ret {fn : Func} {tmps : Array Value} {w W : World} {n : Int} {A : Option Addr} {m c : Nat} (h : TopR w n A m c true W)
    (hr : ∀ W', W'.cell? ⟨w.heap.size + 1, 0, none⟩ = some (.bool true) → (results fn tmps).run Try.prog W' = .ok (.bool true) W') : LeavesInM Fence.wide 9 Try.prog fn tmps (LawPost w) [] .returning W :=
  ⟨.bool true, hr _ h.cells.2.2.1, rfl, h.bel⟩
theorem tops_end {fn : Func} {tmps : Array Value} {w W : World} {n : Int} {A : Option Addr} {m c D : Nat} (h : TopR w n A m c true W) (hD : w.heap.size + 2 ≤ D) (hK : W.heap[D]? = some (.deferred (some [])))
    (hr : ∀ W', W'.cell? ⟨w.heap.size + 1, 0, none⟩ = some (.bool true) → (results fn tmps).run Try.prog W' = .ok (.bool true) W') : LeavesInM Fence.wide 9 Try.prog fn tmps (LawPost w) [{ target := .collected D, args := #[] }] .returning W := by
  have hb2 : (W.putObj D (.deferred none)).heap[w.heap.size + 1]? = some (.cells #[.bool true] 4 (0, 0)) := (World.putObj_heap_other (by omega)).trans h.r
  exact ⟨by simp, .inl ⟨D, _, rfl, run_takeDeferred hK, ⟨.bool true, hr _ (cell_of_row _ _ 0 _ _ (0, 0) hb2), rfl, h.bel.grown (grownBy_putObj' W D _) h.bel.size (fun k e => by injection e with e; omega)⟩⟩⟩

set_option maxRecDepth 100000 in
set_option maxHeartbeats 8000000 in
theorem clearTops_any (n : Int) (A : Option Addr) (c : Nat) (hs : List Hdr) (ls : List (List Offer)) (Z : Option Addr) (zc : Nat) (zs : List Int) (w : World) (h : Buys w w.heap.size A hs ls) (hl : ls.length ≤ maxLen) (hls : ∀ l ∈ ls, l.length ≤ maxLen) (hw : BWide ls) (hnil : NilB hs)
    (hz : One intV w w.heap.size Z zs) (hzl : zs.length ≤ maxLen) :
    Calls Try.prog 7 #[instV n A ls.length c, .slice Z zs.length zc] w (LawPost w) := by
  have HA := hide h
  have HZ := hide hz
  have HLG : Hid (∀ W, Below w.heap.size w W → Calls Try.prog 8 #[instV n A ls.length c] W (LargePost ls W)) := hide (fun W hb => large_any n A c hs ls W (h.up hb) (by unfold maxLen at hl; omega) (fun l hm => by have := hls l hm; unfold maxLen at this; omega))
  have HKN := hide (fun W => known_any W)
  have HW := hide hw
  have HNL := hide hnil
  have HZL := hide hzl
  clear h hz hl hls hw hnil hzl
  simp only [instV] at *
  refine (callsIn_wide (n := 9)).1 ?_
  refine callsIn_of_wp_marks Try.func7 rfl trivial ?_ rfl
  simp only [Try.ntmps7, List.size_toArray, List.length_cons, List.length_nil, Nat.reduceAdd, Nat.reduceSub, Array.replicate_succ, Array.replicate_zero, List.push_toArray, List.append_toArray, List.nil_append, List.cons_append]
  gi_wp2_with fail
  have HR1 : Hid (TopR w n A ls.length c false ((w.alloc (.cells #[.int .i64 n, .slice A ls.length c] 24)).alloc (.cells #[.bool false] 4))) := hide ⟨((Below.refl _ _).alloc (Nat.le_refl _) _).alloc (by simp) _, (Below.heap_alloc _ _ _ (by simp)).trans (heap_alloc_new w _), by
    have := heap_alloc_new (w.alloc (.cells #[.int .i64 n, .slice A ls.length c] 24)) (.cells #[.bool false] 4)
    simpa using this⟩
  generalize (w.alloc (.cells #[.int .i64 n, .slice A ls.length c] 24)).alloc (.cells #[.bool false] 4) = w1 at *
  refine ⟨trivial, (callsIn_wide.2 (HLG.out w1 HR1.out.bel)).mono ?_⟩
  rintro e w2 ⟨big, rfl, hbig, hb2⟩
  have HR2 := hide (HR1.out.below hb2)
  have HBIG := hide hbig
  clear hb2 hbig
  cases big
  · obtain ⟨hl40, hl20⟩ := HBIG.out rfl
    have HL20 := hide hl20
    have HBE : Hid (Calls Try.prog 16 #[.agg #[.int .i64 n, .slice A ls.length c]] w2 (ClearPost (bestI n ls) w2)) := hide (best_any n A c hs ls w2 (HA.out.up HR2.out.bel) (by omega) (fun l hm => by have := hl20 l hm; omega) HW.out)
    clear hl20
    obtain ⟨x0, x1, _, _⟩ := HR2.out.cells
    gi_wp2_with fail
    by_cases hie : instE n ls = 0
    · have HG := hide (instE_good HW.out hie)
      rw [best_ok HW.out hie] at HBE
      have HIE := hide hie
      clear hie
      have hCL : (choiceW ls (allG n.toNat)).length = ls.length := choiceW_len _ _
      obtain ⟨ch, hch⟩ : ∃ ch, ch = choiceW ls (allG n.toNat) := ⟨_, rfl⟩
      obtain ⟨bw, hbw⟩ : ∃ bw, bw = bestW ls (allG n.toNat) := ⟨_, rfl⟩
      rw [← hch, ← hbw] at HBE
      rw [← hch] at hCL
      have HCH := hide hch
      have HBW := hide hbw
      have HCL := hide hCL
      clear hch hbw hCL
      refine ⟨trivial, (callsIn_wide.2 HBE.out).mono ?_⟩
      rintro e w3 ⟨v3, rfl, hown3, hb3⟩
      obtain ⟨A3, c3, rfl, _⟩ := own_sh hown3
      have HR3 := hide (HR2.out.below hb3)
      have HO3 := hide (own_base hown3 HR2.out.bel.size)
      simp only
      clear hb3 hown3 x0 x1 HBE
      have HR4 := hide (HR3.out.below ((Below.refl _ _).alloc (Nat.le_refl _) (.cells #[.slice A3 ch.length c3, .int .i64 bw] 35)))
      have HC4 : Hid ((w3.alloc (.cells #[.slice A3 ch.length c3, .int .i64 bw] 35)).heap[w3.heap.size]? = some (.cells #[.slice A3 ch.length c3, .int .i64 bw] 35 (0, 0))) := hide (heap_alloc_new w3 _)
      have HO4 := hide (HO3.out.alloc (.cells #[.slice A3 ch.length c3, .int .i64 bw] 35))
      obtain ⟨x0, x1, _, _⟩ := HR4.out.cells
      have y0 := cell_of_row _ w3.heap.size 0 _ _ (0, 0) HC4.out
      simp at y0
      gi_wp2_with fail
      clear x0 x1 y0
      generalize w3.alloc (.cells #[.slice A3 ch.length c3, .int .i64 bw] 35) = w4 at *
      have HFIT : Hid (fitW ls ch 0 0 = some bw) := hide (by rw [HCH.out, HBW.out]; exact told_fit HG.out (best_told ls _))
      have HBB : Hid (0 ≤ bw ∧ bw ≤ 35184372088832) := hide (by rw [HBW.out]; exact best_bd HG.out _)
      have hq4 : (ch.length : Int) ≤ 9223372036854775807 := by have := HCL.out; omega
      have HW1 := hide (worth_any n A c hs ls A3 c3 ch w4 (HA.out.up HR4.out.bel) HG.out (Reads.of_own HO4.out) hq4)
      rw [HFIT.out] at HW1
      simp only [instV, fitV] at HW1
      refine ⟨trivial, (callsIn_wide.2 HW1.out).mono ?_⟩
      rintro e w5 ⟨rfl, hb5⟩
      simp only
      have HR5 := hide (HR4.out.below hb5)
      have HC5 := hide ((hb5.block _ (lt_of_block HC4.out)).trans HC4.out)
      have HO5 := hide (own_below HO4.out hb5 (Nat.le_refl _))
      obtain ⟨q5, hq5⟩ : ∃ q5, q5 = w3.heap.size := ⟨_, rfl⟩
      rw [← hq5] at HC5 ⊢
      clear hb5 HR4 HC4 HO4 HR3 HO3 HW1 hq5
      have hbx : Below w5.heap.size w5 (w5.alloc (.cells #[.int .i64 bw] 2)) := (Below.refl _ _).alloc (Nat.le_refl _) _
      have HR6 := hide (HR5.out.below hbx)
      have HC6 := hide ((hbx.block _ (lt_of_block HC5.out)).trans HC5.out)
      have HO6 := hide (own_below HO5.out hbx (Nat.le_refl _))
      have HV6 : Hid ((w5.alloc (.cells #[.int .i64 bw] 2)).heap[w5.heap.size]? = some (.cells #[.int .i64 bw] 2 (0, 0))) := hide (heap_alloc_new w5 _)
      obtain ⟨x0, x1, _, _⟩ := HR6.out.cells
      clear hbx HR5 HC5 HO5
      gi_wp2_with fail
      clear x0 x1
      obtain ⟨q7, hq7⟩ : ∃ q7, q7 = w5.heap.size := ⟨_, rfl⟩
      rw [← hq7] at HV6 ⊢
      generalize w5.alloc (.cells #[.int .i64 bw] 2) = w6 at *
      clear hq7
      have hzz : (zs.length : Int) ≤ 9223372036854775807 := by have := HZL.out; unfold maxLen at this; omega
      have HW2 := hide (worth_any n A c hs ls Z zc zs w6 (HA.out.up HR6.out.bel) HG.out (HZ.out.up HR6.out.bel) hzz)
      have HAF : Hid (∀ v, fitW ls zs 0 0 = some v → v ≤ bw ∧ (v = bw → cmpL ch zs ≤ 0)) := hide (fun v hv => by rw [HCH.out, HBW.out]; exact any_fit HG.out hv)
      have HFL : Hid (∀ v, fitW ls zs 0 0 = some v → zs.length = ls.length) := hide (fun v hv => fit_len hv)
      simp only [instV] at HW2
      generalize fitW ls zs 0 0 = fz at *
      cases fz with
      | none =>
        simp only [fitV] at HW2
        refine ⟨trivial, (callsIn_wide.2 HW2.out).mono ?_⟩
        rintro e w7 ⟨rfl, hb7⟩
        simp only
        have HR7 := hide (HR6.out.below hb7)
        have HK5 := hide ((hb7.block _ (lt_of_block HC6.out)).trans HC6.out)
        have HK7 := hide ((hb7.block _ (lt_of_block HV6.out)).trans HV6.out)
        have HO7 := hide (own_below HO6.out hb7 (Nat.le_refl _))
        clear hb7 HR6 HC6 HV6 HO6 HW2
        have y1 := cell_of_row _ q5 1 _ _ (0, 0) HK5.out
        have y7 := cell_of_row _ q7 0 _ _ (0, 0) HK7.out
        simp at y1 y7
        gi_wp2_with fail
        any_goals (first | exact absurd ‹some undef = some (Value.bool _)› (by simp [undef]) | skip)
        refine ⟨trivial, ?_⟩
        have HR8a := HR7
        obtain ⟨x0, x1, _, _⟩ := HR7.out.cells
        have HAL := hide (clearAll_any n A c hs ls w7 (HA.out.up HR7.out.bel) (by omega) (fun l hm => by have := HL20.out l hm; omega) HW.out HNL.out)
        simp only [instV] at HAL
        gi_wp2_with fail
        refine ⟨trivial, (callsIn_wide.2 HAL.out).mono ?_⟩
        rintro e w8 ⟨rc, xc, A8, c8, hs8, rfl, hb8, hrc, hxc, hor⟩
        have hal : w8.heap[rc]? = some (.cells #[.bool true] 4 (0, 0)) ∧ w8.heap[xc]? = some (.cells #[.int .i64 n, .slice A8 ls.length c8] 24 (0, 0)) ∧ OwnB w8 w7.heap.size A8 c8 hs8 ls := by
          rcases hor with ⟨_, h⟩ | ⟨h, _⟩
          · exact h
          · exact absurd HIE.out h
        have HAB := hide hal
        have HB8 := hide hb8
        have hfe : ∀ (W : World), (binOp .eql 57 (.func (.func 43) #[] #[.pointer (some ⟨rc, 0, none⟩), .pointer (some ⟨xc, 0, none⟩)]) .nilFunc).run Try.prog W = .ok (.bool false) W := fun _ => rfl
        have HI9 : Hid (TopI w n A ls.length c q5 A3 c3 bw q7 w8.heap.size ch 0 (w8.alloc (.cells #[.int .i64 0] 3))) := hide (by
          have hbx : Below w7.heap.size w7 (w8.alloc (.cells #[.int .i64 0] 3)) := hb8.trans ((Below.refl _ _).alloc hb8.size _)
          have hz8 := hb8.size
          exact ⟨HR7.out.below hbx, (hbx.block _ (lt_of_block HK5.out)).trans HK5.out, (hbx.block _ (lt_of_block HK7.out)).trans HK7.out, heap_alloc_new w8 _, own_below HO7.out hbx (Nat.le_refl _), fun g hg => by have := (HO7.out.lt g hg).2; omega, by have := lt_of_block HK5.out; omega, by have := lt_of_block HK7.out; omega, by have := HR7.out.lt; omega⟩)
        clear hb8 hor hal x0 x1 HAL hrc hxc
        gi_wp2_with fail
        have HB9 : Hid (Below w8.heap.size w8 (w8.alloc (.cells #[.int .i64 0] 3))) := hide ((Below.refl _ _).alloc (Nat.le_refl _) _)
        have HZ9 : Hid ((w8.alloc (.cells #[.int .i64 0] 3)).heap.size = w8.heap.size + 1) := hide (by simp)
        obtain ⟨q12, hq12⟩ : ∃ q, q = w8.heap.size := ⟨_, rfl⟩
        have HQ12 := hide hq12
        rw [← hq12] at HI9 ⊢
        clear hq12
        generalize w8.alloc (.cells #[.int .i64 0] 3) = w9 at *
        refine wpIn_rangeSeqL (α := Value × List Int) (encs := encC) (E := NextC (w9.heap.size + 2) (choicesW ls (allG n.toNat))) (S := fun xs => xs.map Prod.snd = choicesW ls (allG n.toNat)) (Sp := fun pre => pre.map Prod.snd <+: choicesW ls (allG n.toNat)) (gf := 43) (lb := #[.pointer (some ⟨rc, 0, none⟩), .pointer (some ⟨xc, 0, none⟩)]) rfl (enters_of Try.func43 (by kernel_rfl) rfl) (fun k => k = q12) ownC
          (fun h => by have := HQ12.out; have := HZ9.out; omega) (fun h => by have := HQ12.out; have := HZ9.out; omega)
          (fun pre x W hE k hk => (hE.2.lt k hk).1)
          (fun W hb hz => all_good (B := w8.heap.size) HG.out (fun k hk => by have := HQ12.out; have := HZ9.out; rcases hk with hk | hk <;> omega) (by omega) (by have := HZ9.out; omega)
            ((hb.block _ (by have := lt_of_block HAB.out.1; have := HZ9.out; omega)).trans ((HB9.out.block _ (lt_of_block HAB.out.1)).trans HAB.out.1))
            ((hb.block _ (by have := lt_of_block HAB.out.2.1; have := HZ9.out; omega)).trans ((HB9.out.block _ (lt_of_block HAB.out.2.1)).trans HAB.out.2.1))
            (lt_of_block HAB.out.2.1) (HAB.out.2.2.buys.below (HB9.out.trans (hb.mono (by have := HZ9.out; omega)))))
          (fun _ => rfl)
          (fun pre W' => pre.length < 5 ∧ TopI w n A ls.length c q5 A3 c3 bw q7 q12 ch pre.length W') (fun c' pre W' => (∃ id, c' = .exit id ∧ id = 0) ∧ TopI w n A ls.length c q5 A3 c3 bw q7 q12 ch 5 W')
          (fun s X Y hs' hb' => ⟨hs'.1, hs'.2.low (by have := HQ12.out; have := HZ9.out; omega) hb'⟩) (fun c' s X Y hs' hb' => ⟨hs'.1, hs'.2.low (by have := HQ12.out; have := HZ9.out; omega) hb'⟩) ⟨by decide, HI9.out⟩
          ?a11 (fun _ W => W) (fun _ _ => Below.refl _ _) 7 ?assign1 ?body1 ?done1 ?stop1
        case assign1 =>
          rintro l' pre x W' K he hK
          clear he
          simp only [encC]
          gi_wp2
          exact hK
        case body1 =>
          rintro l' pre ⟨v', d⟩ W0 Wr ⟨hk5, hti⟩ hE hsz hsz2 hsame
          obtain ⟨k, hk⟩ : ∃ k, k = pre.length := ⟨_, rfl⟩
          rw [← hk] at hk5 hti
          have HK := hide hk
          have HTI := hide hti
          have HPRE : Hid (pre.map Prod.snd ++ [d] <+: choicesW ls (allG n.toNat)) := hide hE.1
          have hownr : Wr.ownsRow (w9.heap.size + 2) 3 1 v' d.length (d.map (Value.int .i64)) := own_same hE.2 (fun k hk => hsame k (by omega))
          obtain ⟨A4, c4, rfl, _⟩ := own_sh hownr
          have HOD := hide hownr
          have HDL : Hid (d.length = ls.length) := hide (choicesW_len ls _ d (pre_mem hE.1))
          have HDF : Hid (fitW ls d 0 0 = some bw) := hide (by rw [HBW.out]; exact told_fit HG.out (pre_mem hE.1))
          have hdz : (d.length : Int) ≤ 9223372036854775807 := by have := HDL.out; omega
          have HW3 := hide (worth_any n A c hs ls A4 c4 d Wr (HA.out.up hti.r.bel) HG.out (Reads.of_own hownr) hdz)
          rw [HDF.out] at HW3
          simp only [instV, fitV] at HW3
          obtain ⟨x0, x1, _, _⟩ := hti.r.cells
          clear hk hti hE hownr hdz hsame hsz hsz2
          gi_wp2_with fail
          refine ⟨trivial, (callsIn_in HW3.out).mono ?_⟩
          rintro e W4 ⟨rfl, hb4⟩
          simp only
          have HT4 := hide (HTI.out.below hb4)
          have HO4 := hide (own_below HOD.out hb4 (Nat.le_refl _))
          have HX4 : Hid (OutP (fun k => k = q12 ∨ ownC (.slice A4 d.length c4, d) k) Wr W4) := hide (OutP.of_below hb4)
          clear x0 x1 hb4 HW3 HOD HTI
          obtain ⟨y5, y7, y12, f12⟩ := HT4.out.cells
          have hwk : IntKind.i64.wrap ((k : Int) + 1) = (k : Int) + 1 := Go.IntWalk.i64_in _ (by omega)
          have HLN : Hid ((pre ++ [((.slice A4 d.length c4 : Value), d)]).length = k + 1) := hide (by rw [List.length_append, ← HK.out]; rfl)
          by_cases hk0 : k = 0
          · have HCD : Hid (ch = d) := hide (by
              have h0 : pre = [] := List.eq_nil_of_length_eq_zero (by rw [← HK.out]; exact hk0)
              have h1 := HPRE.out
              rw [h0] at h1
              rw [HCH.out]
              exact (pre_head h1 (choicesW_first ls _)).symm)
            have e0 : ((k : Int) == 0) = true := by simp; omega
            have e5 : ((k : Int) + 1 == 5) = false := by rw [beq_eq_false_iff_ne]; omega
            have HL5 : Hid (k + 1 < 5) := hide (by omega)
            have hclen : ch.length * 8 ≤ 140737488351232 := by have := HCL.out; omega
            have hdlen : d.length * 8 ≤ 140737488351232 := by have := HDL.out; omega
            have HCC := hide (compare_any A3 c3 ch A4 c4 d W4 (Reads.of_own HT4.out.own) (Reads.of_own HO4.out) hclen hdlen)
            have hcz : cmpL ch d = 0 := by rw [HCD.out]; exact cmpL_self d
            rw [hcz] at HCC
            clear hcz hclen hdlen
            gi_wp2_with fail
            refine ⟨trivial, (callsIn_in HCC.out).mono ?_⟩
            rintro e W5 ⟨rfl, hb5⟩
            simp only
            have HT5 := hide (HT4.out.below hb5)
            have HX5 := hide (HX4.out.trans (OutP.of_below hb5))
            clear hb5 y5 y7 y12 f12 HCC HX4 HT4 HO4 hk0
            obtain ⟨y5, y7, y12, f12⟩ := HT5.out.cells
            have HT6 := hide (HT5.out.next (k + 1))
            have HX6 := hide (HX5.out.set ⟨q12, 0, none⟩ (.inl rfl) (.int .i64 ((k + 1 : Nat) : Int)))
            have hkk : ((k + 1 : Nat) : Int) = (k : Int) + 1 := by omega
            rw [hkk] at HT6 HX6
            have g12 := HT6.out.cells.2.2.1
            rw [hkk] at g12
            clear hkk
            gi_wp2_with fail
            exact ⟨HX6.out, by show (pre ++ _).length < 5; rw [HLN.out]; exact HL5.out, by show TopI w n A ls.length c q5 A3 c3 bw q7 q12 ch (pre ++ _).length _; rw [HLN.out]; exact HT6.out⟩
          · have e0 : ((k : Int) == 0) = false := by simp; omega
            have HT6 := hide (HT4.out.next (k + 1))
            have HX6 := hide (HX4.out.set ⟨q12, 0, none⟩ (.inl rfl) (.int .i64 ((k + 1 : Nat) : Int)))
            have hkk : ((k + 1 : Nat) : Int) = (k : Int) + 1 := by omega
            rw [hkk] at HT6 HX6
            have g12 := HT6.out.cells.2.2.1
            rw [hkk] at g12
            clear hkk hk0
            gi_wp2_with fail
            refine ⟨trivial, ?_⟩
            by_cases h5 : k + 1 = 5
            · have HT7 : Hid (TopI w n A ls.length c q5 A3 c3 bw q7 q12 ch 5 (W4.setCell ⟨q12, 0, none⟩ (.int .i64 ((k : Int) + 1)))) := hide (h5 ▸ HT6.out)
              have e5 : ((k : Int) + 1 == 5) = true := by rw [beq_iff_eq]; omega
              clear h5
              gi_wp2_with fail
              exact ⟨HX6.out, ⟨0, rfl, rfl⟩, HT7.out⟩
            · have e5 : ((k : Int) + 1 == 5) = false := by rw [beq_eq_false_iff_ne]; omega
              have HL5 : Hid (k + 1 < 5) := hide (by omega)
              clear h5
              gi_wp2_with fail
              exact ⟨HX6.out, by show (pre ++ _).length < 5; rw [HLN.out]; exact HL5.out, by show TopI w n A ls.length c q5 A3 c3 bw q7 q12 ch (pre ++ _).length _; rw [HLN.out]; exact HT6.out⟩
        case done1 =>
          rintro D xs W' hD hS ⟨_, hti⟩ hK
          have hpos : 0 < xs.length := by
            cases xs with
            | nil =>
              have h1 := choicesW_first ls (allG n.toNat)
              rw [← hS] at h1
              simp at h1
            | cons a b => simp
          clear hS
          generalize xs.length = kx at *
          have HTI := hide hti
          have y12 := hti.cells.2.2.1
          have hgz : decide ((0 : Int) < (kx : Int)) = true := decide_eq_true (by omega)
          have HKD := hide hK
          have HDD : Hid (w.heap.size + 2 ≤ D) := hide (by have := HI9.out.lo; have := HQ12.out; have := HZ9.out; omega)
          clear hti hK hD
          gi_wp2_with fail
          refine ⟨trivial, (callsIn_wide.2 (HKN.out W')).mono ?_⟩
          rintro e Wz ⟨rfl, hbz⟩
          simp only
          have HRz := hide (HTI.out.r.below hbz)
          have HKz := hide ((hbz.block _ (lt_of_block HKD.out)).trans HKD.out)
          have HR10 := hide (HRz.out.says true)
          have HK10 := hide ((Below.heap_setCell Wz ⟨w.heap.size + 1, 0, none⟩ (.bool true) D (by have := HDD.out; show D ≠ w.heap.size + 1; omega)).trans HKz.out)
          clear hbz y12
          obtain ⟨_, _, x2, x3⟩ := HRz.out.cells
          gi_wp2_with fail
          exact tops_end HR10.out HDD.out HK10.out (fun W' h => by simp [results, Try.results7, go_sem, h])
        case stop1 =>
          rintro D c' pre W' hD hpre ⟨⟨id, rfl, rfl⟩, hti⟩ hK
          have HTI := hide hti
          have y12 := hti.cells.2.2.1
          clear hpre
          have HKD := hide hK
          have HDD : Hid (w.heap.size + 2 ≤ D) := hide (by have := HI9.out.lo; have := HQ12.out; have := HZ9.out; omega)
          clear hti hK hD
          gi_wp2_with fail
          refine ⟨trivial, (callsIn_wide.2 (HKN.out W')).mono ?_⟩
          rintro e Wz ⟨rfl, hbz⟩
          simp only
          have HRz := hide (HTI.out.r.below hbz)
          have HKz := hide ((hbz.block _ (lt_of_block HKD.out)).trans HKD.out)
          have HR10 := hide (HRz.out.says true)
          have HK10 := hide ((Below.heap_setCell Wz ⟨w.heap.size + 1, 0, none⟩ (.bool true) D (by have := HDD.out; show D ≠ w.heap.size + 1; omega)).trans HKz.out)
          clear hbz y12
          obtain ⟨_, _, x2, x3⟩ := HRz.out.cells
          gi_wp2_with fail
          exact tops_end HR10.out HDD.out HK10.out (fun W' h => by simp [results, Try.results7, go_sem, h])
      | some v =>
        obtain ⟨hv1, hv2⟩ := HAF.out v rfl
        have HV2 := hide hv2
        have hgt : decide (bw < v) = false := decide_eq_false (by omega)
        clear hv1 hv2
        simp only [fitV] at HW2
        by_cases hvb : v = bw
        · subst hvb
          have HCMP : Hid (cmpL ch zs ≤ 0) := hide (HV2.out rfl)
          refine ⟨trivial, (callsIn_wide.2 HW2.out).mono ?_⟩
          rintro e w6b ⟨rfl, hb7⟩
          simp only
          have HR6b := hide (HR6.out.below hb7)
          have HC6b := hide ((hb7.block _ (lt_of_block HC6.out)).trans HC6.out)
          have HV6b := hide ((hb7.block _ (lt_of_block HV6.out)).trans HV6.out)
          have HO6b := hide (own_below HO6.out hb7 (Nat.le_refl _))
          clear hb7 HR6 HC6 HV6 HO6 HW2
          have y0 := cell_of_row _ q5 0 _ _ (0, 0) HC6b.out
          have y1 := cell_of_row _ q5 1 _ _ (0, 0) HC6b.out
          have y7 := cell_of_row _ q7 0 _ _ (0, 0) HV6b.out
          simp at y0 y1 y7
          have hclen : ch.length * 8 ≤ 140737488351232 := by have := HCL.out; omega
          have hzlen : zs.length * 8 ≤ 140737488351232 := by have := HFL.out _ rfl; omega
          have HCC := hide (compare_any A3 c3 ch Z zc zs w6b (Reads.of_own HO6b.out) (HZ.out.up HR6b.out.bel) hclen hzlen)
          have hcg : decide (0 < cmpL ch zs) = false := decide_eq_false (by have := HCMP.out; omega)
          generalize cmpL ch zs = cz at *
          gi_wp2_with fail
          refine ⟨trivial, (callsIn_wide.2 HCC.out).mono ?_⟩
          rintro e w7 ⟨rfl, hb7⟩
          simp only
          have HR7 := hide (HR6b.out.below hb7)
          have HK5 := hide ((hb7.block _ (lt_of_block HC6b.out)).trans HC6b.out)
          have HK7 := hide ((hb7.block _ (lt_of_block HV6b.out)).trans HV6b.out)
          have HO7 := hide (own_below HO6b.out hb7 (Nat.le_refl _))
          clear hb7 HR6b HC6b HV6b HO6b HCC y0 y1 y7
          generalize hbwv : v = bw at *
          clear hbwv
          have HR8a := HR7
          obtain ⟨x0, x1, _, _⟩ := HR7.out.cells
          have HAL := hide (clearAll_any n A c hs ls w7 (HA.out.up HR7.out.bel) (by omega) (fun l hm => by have := HL20.out l hm; omega) HW.out HNL.out)
          simp only [instV] at HAL
          gi_wp2_with fail
          refine ⟨trivial, (callsIn_wide.2 HAL.out).mono ?_⟩
          rintro e w8 ⟨rc, xc, A8, c8, hs8, rfl, hb8, hrc, hxc, hor⟩
          have hal : w8.heap[rc]? = some (.cells #[.bool true] 4 (0, 0)) ∧ w8.heap[xc]? = some (.cells #[.int .i64 n, .slice A8 ls.length c8] 24 (0, 0)) ∧ OwnB w8 w7.heap.size A8 c8 hs8 ls := by
            rcases hor with ⟨_, h⟩ | ⟨h, _⟩
            · exact h
            · exact absurd HIE.out h
          have HAB := hide hal
          have HB8 := hide hb8
          have hfe : ∀ (W : World), (binOp .eql 57 (.func (.func 43) #[] #[.pointer (some ⟨rc, 0, none⟩), .pointer (some ⟨xc, 0, none⟩)]) .nilFunc).run Try.prog W = .ok (.bool false) W := fun _ => rfl
          have HI9 : Hid (TopI w n A ls.length c q5 A3 c3 bw q7 w8.heap.size ch 0 (w8.alloc (.cells #[.int .i64 0] 3))) := hide (by
            have hbx : Below w7.heap.size w7 (w8.alloc (.cells #[.int .i64 0] 3)) := hb8.trans ((Below.refl _ _).alloc hb8.size _)
            have hz8 := hb8.size
            exact ⟨HR7.out.below hbx, (hbx.block _ (lt_of_block HK5.out)).trans HK5.out, (hbx.block _ (lt_of_block HK7.out)).trans HK7.out, heap_alloc_new w8 _, own_below HO7.out hbx (Nat.le_refl _), fun g hg => by have := (HO7.out.lt g hg).2; omega, by have := lt_of_block HK5.out; omega, by have := lt_of_block HK7.out; omega, by have := HR7.out.lt; omega⟩)
          clear hb8 hor hal x0 x1 HAL hrc hxc
          gi_wp2_with fail
          have HB9 : Hid (Below w8.heap.size w8 (w8.alloc (.cells #[.int .i64 0] 3))) := hide ((Below.refl _ _).alloc (Nat.le_refl _) _)
          have HZ9 : Hid ((w8.alloc (.cells #[.int .i64 0] 3)).heap.size = w8.heap.size + 1) := hide (by simp)
          obtain ⟨q12, hq12⟩ : ∃ q, q = w8.heap.size := ⟨_, rfl⟩
          have HQ12 := hide hq12
          rw [← hq12] at HI9 ⊢
          clear hq12
          generalize w8.alloc (.cells #[.int .i64 0] 3) = w9 at *
          refine wpIn_rangeSeqL (α := Value × List Int) (encs := encC) (E := NextC (w9.heap.size + 2) (choicesW ls (allG n.toNat))) (S := fun xs => xs.map Prod.snd = choicesW ls (allG n.toNat)) (Sp := fun pre => pre.map Prod.snd <+: choicesW ls (allG n.toNat)) (gf := 43) (lb := #[.pointer (some ⟨rc, 0, none⟩), .pointer (some ⟨xc, 0, none⟩)]) rfl (enters_of Try.func43 (by kernel_rfl) rfl) (fun k => k = q12) ownC
            (fun h => by have := HQ12.out; have := HZ9.out; omega) (fun h => by have := HQ12.out; have := HZ9.out; omega)
            (fun pre x W hE k hk => (hE.2.lt k hk).1)
            (fun W hb hz => all_good (B := w8.heap.size) HG.out (fun k hk => by have := HQ12.out; have := HZ9.out; rcases hk with hk | hk <;> omega) (by omega) (by have := HZ9.out; omega)
              ((hb.block _ (by have := lt_of_block HAB.out.1; have := HZ9.out; omega)).trans ((HB9.out.block _ (lt_of_block HAB.out.1)).trans HAB.out.1))
              ((hb.block _ (by have := lt_of_block HAB.out.2.1; have := HZ9.out; omega)).trans ((HB9.out.block _ (lt_of_block HAB.out.2.1)).trans HAB.out.2.1))
              (lt_of_block HAB.out.2.1) (HAB.out.2.2.buys.below (HB9.out.trans (hb.mono (by have := HZ9.out; omega)))))
            (fun _ => rfl)
            (fun pre W' => pre.length < 5 ∧ TopI w n A ls.length c q5 A3 c3 bw q7 q12 ch pre.length W') (fun c' pre W' => (∃ id, c' = .exit id ∧ id = 0) ∧ TopI w n A ls.length c q5 A3 c3 bw q7 q12 ch 5 W')
            (fun s X Y hs' hb' => ⟨hs'.1, hs'.2.low (by have := HQ12.out; have := HZ9.out; omega) hb'⟩) (fun c' s X Y hs' hb' => ⟨hs'.1, hs'.2.low (by have := HQ12.out; have := HZ9.out; omega) hb'⟩) ⟨by decide, HI9.out⟩
            ?a12 (fun _ W => W) (fun _ _ => Below.refl _ _) 7 ?assign2 ?body2 ?done2 ?stop2
          case assign2 =>
            rintro l' pre x W' K he hK
            clear he
            simp only [encC]
            gi_wp2
            exact hK
          case body2 =>
            rintro l' pre ⟨v', d⟩ W0 Wr ⟨hk5, hti⟩ hE hsz hsz2 hsame
            obtain ⟨k, hk⟩ : ∃ k, k = pre.length := ⟨_, rfl⟩
            rw [← hk] at hk5 hti
            have HK := hide hk
            have HTI := hide hti
            have HPRE : Hid (pre.map Prod.snd ++ [d] <+: choicesW ls (allG n.toNat)) := hide hE.1
            have hownr : Wr.ownsRow (w9.heap.size + 2) 3 1 v' d.length (d.map (Value.int .i64)) := own_same hE.2 (fun k hk => hsame k (by omega))
            obtain ⟨A4, c4, rfl, _⟩ := own_sh hownr
            have HOD := hide hownr
            have HDL : Hid (d.length = ls.length) := hide (choicesW_len ls _ d (pre_mem hE.1))
            have HDF : Hid (fitW ls d 0 0 = some bw) := hide (by rw [HBW.out]; exact told_fit HG.out (pre_mem hE.1))
            have hdz : (d.length : Int) ≤ 9223372036854775807 := by have := HDL.out; omega
            have HW3 := hide (worth_any n A c hs ls A4 c4 d Wr (HA.out.up hti.r.bel) HG.out (Reads.of_own hownr) hdz)
            rw [HDF.out] at HW3
            simp only [instV, fitV] at HW3
            obtain ⟨x0, x1, _, _⟩ := hti.r.cells
            clear hk hti hE hownr hdz hsame hsz hsz2
            gi_wp2_with fail
            refine ⟨trivial, (callsIn_in HW3.out).mono ?_⟩
            rintro e W4 ⟨rfl, hb4⟩
            simp only
            have HT4 := hide (HTI.out.below hb4)
            have HO4 := hide (own_below HOD.out hb4 (Nat.le_refl _))
            have HX4 : Hid (OutP (fun k => k = q12 ∨ ownC (.slice A4 d.length c4, d) k) Wr W4) := hide (OutP.of_below hb4)
            clear x0 x1 hb4 HW3 HOD HTI
            obtain ⟨y5, y7, y12, f12⟩ := HT4.out.cells
            have hwk : IntKind.i64.wrap ((k : Int) + 1) = (k : Int) + 1 := Go.IntWalk.i64_in _ (by omega)
            have HLN : Hid ((pre ++ [((.slice A4 d.length c4 : Value), d)]).length = k + 1) := hide (by rw [List.length_append, ← HK.out]; rfl)
            by_cases hk0 : k = 0
            · have HCD : Hid (ch = d) := hide (by
                have h0 : pre = [] := List.eq_nil_of_length_eq_zero (by rw [← HK.out]; exact hk0)
                have h1 := HPRE.out
                rw [h0] at h1
                rw [HCH.out]
                exact (pre_head h1 (choicesW_first ls _)).symm)
              have e0 : ((k : Int) == 0) = true := by simp; omega
              have e5 : ((k : Int) + 1 == 5) = false := by rw [beq_eq_false_iff_ne]; omega
              have HL5 : Hid (k + 1 < 5) := hide (by omega)
              have hclen : ch.length * 8 ≤ 140737488351232 := by have := HCL.out; omega
              have hdlen : d.length * 8 ≤ 140737488351232 := by have := HDL.out; omega
              have HCC := hide (compare_any A3 c3 ch A4 c4 d W4 (Reads.of_own HT4.out.own) (Reads.of_own HO4.out) hclen hdlen)
              have hcz : cmpL ch d = 0 := by rw [HCD.out]; exact cmpL_self d
              rw [hcz] at HCC
              clear hcz hclen hdlen
              gi_wp2_with fail
              refine ⟨trivial, (callsIn_in HCC.out).mono ?_⟩
              rintro e W5 ⟨rfl, hb5⟩
              simp only
              have HT5 := hide (HT4.out.below hb5)
              have HX5 := hide (HX4.out.trans (OutP.of_below hb5))
              clear hb5 y5 y7 y12 f12 HCC HX4 HT4 HO4 hk0
              obtain ⟨y5, y7, y12, f12⟩ := HT5.out.cells
              have HT6 := hide (HT5.out.next (k + 1))
              have HX6 := hide (HX5.out.set ⟨q12, 0, none⟩ (.inl rfl) (.int .i64 ((k + 1 : Nat) : Int)))
              have hkk : ((k + 1 : Nat) : Int) = (k : Int) + 1 := by omega
              rw [hkk] at HT6 HX6
              have g12 := HT6.out.cells.2.2.1
              rw [hkk] at g12
              clear hkk
              gi_wp2_with fail
              exact ⟨HX6.out, by show (pre ++ _).length < 5; rw [HLN.out]; exact HL5.out, by show TopI w n A ls.length c q5 A3 c3 bw q7 q12 ch (pre ++ _).length _; rw [HLN.out]; exact HT6.out⟩
            · have e0 : ((k : Int) == 0) = false := by simp; omega
              have HT6 := hide (HT4.out.next (k + 1))
              have HX6 := hide (HX4.out.set ⟨q12, 0, none⟩ (.inl rfl) (.int .i64 ((k + 1 : Nat) : Int)))
              have hkk : ((k + 1 : Nat) : Int) = (k : Int) + 1 := by omega
              rw [hkk] at HT6 HX6
              have g12 := HT6.out.cells.2.2.1
              rw [hkk] at g12
              clear hkk hk0
              gi_wp2_with fail
              refine ⟨trivial, ?_⟩
              by_cases h5 : k + 1 = 5
              · have HT7 : Hid (TopI w n A ls.length c q5 A3 c3 bw q7 q12 ch 5 (W4.setCell ⟨q12, 0, none⟩ (.int .i64 ((k : Int) + 1)))) := hide (h5 ▸ HT6.out)
                have e5 : ((k : Int) + 1 == 5) = true := by rw [beq_iff_eq]; omega
                clear h5
                gi_wp2_with fail
                exact ⟨HX6.out, ⟨0, rfl, rfl⟩, HT7.out⟩
              · have e5 : ((k : Int) + 1 == 5) = false := by rw [beq_eq_false_iff_ne]; omega
                have HL5 : Hid (k + 1 < 5) := hide (by omega)
                clear h5
                gi_wp2_with fail
                exact ⟨HX6.out, by show (pre ++ _).length < 5; rw [HLN.out]; exact HL5.out, by show TopI w n A ls.length c q5 A3 c3 bw q7 q12 ch (pre ++ _).length _; rw [HLN.out]; exact HT6.out⟩
          case done2 =>
            rintro D xs W' hD hS ⟨_, hti⟩ hK
            have hpos : 0 < xs.length := by
              cases xs with
              | nil =>
                have h1 := choicesW_first ls (allG n.toNat)
                rw [← hS] at h1
                simp at h1
              | cons a b => simp
            clear hS
            generalize xs.length = kx at *
            have HTI := hide hti
            have y12 := hti.cells.2.2.1
            have hgz : decide ((0 : Int) < (kx : Int)) = true := decide_eq_true (by omega)
            have HKD := hide hK
            have HDD : Hid (w.heap.size + 2 ≤ D) := hide (by have := HI9.out.lo; have := HQ12.out; have := HZ9.out; omega)
            clear hti hK hD
            gi_wp2_with fail
            refine ⟨trivial, (callsIn_wide.2 (HKN.out W')).mono ?_⟩
            rintro e Wz ⟨rfl, hbz⟩
            simp only
            have HRz := hide (HTI.out.r.below hbz)
            have HKz := hide ((hbz.block _ (lt_of_block HKD.out)).trans HKD.out)
            have HR10 := hide (HRz.out.says true)
            have HK10 := hide ((Below.heap_setCell Wz ⟨w.heap.size + 1, 0, none⟩ (.bool true) D (by have := HDD.out; show D ≠ w.heap.size + 1; omega)).trans HKz.out)
            clear hbz y12
            obtain ⟨_, _, x2, x3⟩ := HRz.out.cells
            gi_wp2_with fail
            exact tops_end HR10.out HDD.out HK10.out (fun W' h => by simp [results, Try.results7, go_sem, h])
          case stop2 =>
            rintro D c' pre W' hD hpre ⟨⟨id, rfl, rfl⟩, hti⟩ hK
            have HTI := hide hti
            have y12 := hti.cells.2.2.1
            clear hpre
            have HKD := hide hK
            have HDD : Hid (w.heap.size + 2 ≤ D) := hide (by have := HI9.out.lo; have := HQ12.out; have := HZ9.out; omega)
            clear hti hK hD
            gi_wp2_with fail
            refine ⟨trivial, (callsIn_wide.2 (HKN.out W')).mono ?_⟩
            rintro e Wz ⟨rfl, hbz⟩
            simp only
            have HRz := hide (HTI.out.r.below hbz)
            have HKz := hide ((hbz.block _ (lt_of_block HKD.out)).trans HKD.out)
            have HR10 := hide (HRz.out.says true)
            have HK10 := hide ((Below.heap_setCell Wz ⟨w.heap.size + 1, 0, none⟩ (.bool true) D (by have := HDD.out; show D ≠ w.heap.size + 1; omega)).trans HKz.out)
            clear hbz y12
            obtain ⟨_, _, x2, x3⟩ := HRz.out.cells
            gi_wp2_with fail
            exact tops_end HR10.out HDD.out HK10.out (fun W' h => by simp [results, Try.results7, go_sem, h])
        · have hvq : (v == bw) = false := by simpa using hvb
          clear hvb
          refine ⟨trivial, (callsIn_wide.2 HW2.out).mono ?_⟩
          rintro e w7 ⟨rfl, hb7⟩
          simp only
          have HR7 := hide (HR6.out.below hb7)
          have HK5 := hide ((hb7.block _ (lt_of_block HC6.out)).trans HC6.out)
          have HK7 := hide ((hb7.block _ (lt_of_block HV6.out)).trans HV6.out)
          have HO7 := hide (own_below HO6.out hb7 (Nat.le_refl _))
          clear hb7 HR6 HC6 HV6 HO6 HW2
          have y1 := cell_of_row _ q5 1 _ _ (0, 0) HK5.out
          have y7 := cell_of_row _ q7 0 _ _ (0, 0) HK7.out
          simp at y1 y7
          gi_wp2_with fail
          any_goals (first | exact absurd ‹some undef = some (Value.bool _)› (by simp [undef]) | skip)
          refine ⟨trivial, ?_⟩
          have HR8a := HR7
          obtain ⟨x0, x1, _, _⟩ := HR7.out.cells
          have HAL := hide (clearAll_any n A c hs ls w7 (HA.out.up HR7.out.bel) (by omega) (fun l hm => by have := HL20.out l hm; omega) HW.out HNL.out)
          simp only [instV] at HAL
          gi_wp2_with fail
          refine ⟨trivial, (callsIn_wide.2 HAL.out).mono ?_⟩
          rintro e w8 ⟨rc, xc, A8, c8, hs8, rfl, hb8, hrc, hxc, hor⟩
          have hal : w8.heap[rc]? = some (.cells #[.bool true] 4 (0, 0)) ∧ w8.heap[xc]? = some (.cells #[.int .i64 n, .slice A8 ls.length c8] 24 (0, 0)) ∧ OwnB w8 w7.heap.size A8 c8 hs8 ls := by
            rcases hor with ⟨_, h⟩ | ⟨h, _⟩
            · exact h
            · exact absurd HIE.out h
          have HAB := hide hal
          have HB8 := hide hb8
          have hfe : ∀ (W : World), (binOp .eql 57 (.func (.func 43) #[] #[.pointer (some ⟨rc, 0, none⟩), .pointer (some ⟨xc, 0, none⟩)]) .nilFunc).run Try.prog W = .ok (.bool false) W := fun _ => rfl
          have HI9 : Hid (TopI w n A ls.length c q5 A3 c3 bw q7 w8.heap.size ch 0 (w8.alloc (.cells #[.int .i64 0] 3))) := hide (by
            have hbx : Below w7.heap.size w7 (w8.alloc (.cells #[.int .i64 0] 3)) := hb8.trans ((Below.refl _ _).alloc hb8.size _)
            have hz8 := hb8.size
            exact ⟨HR7.out.below hbx, (hbx.block _ (lt_of_block HK5.out)).trans HK5.out, (hbx.block _ (lt_of_block HK7.out)).trans HK7.out, heap_alloc_new w8 _, own_below HO7.out hbx (Nat.le_refl _), fun g hg => by have := (HO7.out.lt g hg).2; omega, by have := lt_of_block HK5.out; omega, by have := lt_of_block HK7.out; omega, by have := HR7.out.lt; omega⟩)
          clear hb8 hor hal x0 x1 HAL hrc hxc
          gi_wp2_with fail
          have HB9 : Hid (Below w8.heap.size w8 (w8.alloc (.cells #[.int .i64 0] 3))) := hide ((Below.refl _ _).alloc (Nat.le_refl _) _)
          have HZ9 : Hid ((w8.alloc (.cells #[.int .i64 0] 3)).heap.size = w8.heap.size + 1) := hide (by simp)
          obtain ⟨q12, hq12⟩ : ∃ q, q = w8.heap.size := ⟨_, rfl⟩
          have HQ12 := hide hq12
          rw [← hq12] at HI9 ⊢
          clear hq12
          generalize w8.alloc (.cells #[.int .i64 0] 3) = w9 at *
          refine wpIn_rangeSeqL (α := Value × List Int) (encs := encC) (E := NextC (w9.heap.size + 2) (choicesW ls (allG n.toNat))) (S := fun xs => xs.map Prod.snd = choicesW ls (allG n.toNat)) (Sp := fun pre => pre.map Prod.snd <+: choicesW ls (allG n.toNat)) (gf := 43) (lb := #[.pointer (some ⟨rc, 0, none⟩), .pointer (some ⟨xc, 0, none⟩)]) rfl (enters_of Try.func43 (by kernel_rfl) rfl) (fun k => k = q12) ownC
            (fun h => by have := HQ12.out; have := HZ9.out; omega) (fun h => by have := HQ12.out; have := HZ9.out; omega)
            (fun pre x W hE k hk => (hE.2.lt k hk).1)
            (fun W hb hz => all_good (B := w8.heap.size) HG.out (fun k hk => by have := HQ12.out; have := HZ9.out; rcases hk with hk | hk <;> omega) (by omega) (by have := HZ9.out; omega)
              ((hb.block _ (by have := lt_of_block HAB.out.1; have := HZ9.out; omega)).trans ((HB9.out.block _ (lt_of_block HAB.out.1)).trans HAB.out.1))
              ((hb.block _ (by have := lt_of_block HAB.out.2.1; have := HZ9.out; omega)).trans ((HB9.out.block _ (lt_of_block HAB.out.2.1)).trans HAB.out.2.1))
              (lt_of_block HAB.out.2.1) (HAB.out.2.2.buys.below (HB9.out.trans (hb.mono (by have := HZ9.out; omega)))))
            (fun _ => rfl)
            (fun pre W' => pre.length < 5 ∧ TopI w n A ls.length c q5 A3 c3 bw q7 q12 ch pre.length W') (fun c' pre W' => (∃ id, c' = .exit id ∧ id = 0) ∧ TopI w n A ls.length c q5 A3 c3 bw q7 q12 ch 5 W')
            (fun s X Y hs' hb' => ⟨hs'.1, hs'.2.low (by have := HQ12.out; have := HZ9.out; omega) hb'⟩) (fun c' s X Y hs' hb' => ⟨hs'.1, hs'.2.low (by have := HQ12.out; have := HZ9.out; omega) hb'⟩) ⟨by decide, HI9.out⟩
            ?a13 (fun _ W => W) (fun _ _ => Below.refl _ _) 7 ?assign3 ?body3 ?done3 ?stop3
          case assign3 =>
            rintro l' pre x W' K he hK
            clear he
            simp only [encC]
            gi_wp2
            exact hK
          case body3 =>
            rintro l' pre ⟨v', d⟩ W0 Wr ⟨hk5, hti⟩ hE hsz hsz2 hsame
            obtain ⟨k, hk⟩ : ∃ k, k = pre.length := ⟨_, rfl⟩
            rw [← hk] at hk5 hti
            have HK := hide hk
            have HTI := hide hti
            have HPRE : Hid (pre.map Prod.snd ++ [d] <+: choicesW ls (allG n.toNat)) := hide hE.1
            have hownr : Wr.ownsRow (w9.heap.size + 2) 3 1 v' d.length (d.map (Value.int .i64)) := own_same hE.2 (fun k hk => hsame k (by omega))
            obtain ⟨A4, c4, rfl, _⟩ := own_sh hownr
            have HOD := hide hownr
            have HDL : Hid (d.length = ls.length) := hide (choicesW_len ls _ d (pre_mem hE.1))
            have HDF : Hid (fitW ls d 0 0 = some bw) := hide (by rw [HBW.out]; exact told_fit HG.out (pre_mem hE.1))
            have hdz : (d.length : Int) ≤ 9223372036854775807 := by have := HDL.out; omega
            have HW3 := hide (worth_any n A c hs ls A4 c4 d Wr (HA.out.up hti.r.bel) HG.out (Reads.of_own hownr) hdz)
            rw [HDF.out] at HW3
            simp only [instV, fitV] at HW3
            obtain ⟨x0, x1, _, _⟩ := hti.r.cells
            clear hk hti hE hownr hdz hsame hsz hsz2
            gi_wp2_with fail
            refine ⟨trivial, (callsIn_in HW3.out).mono ?_⟩
            rintro e W4 ⟨rfl, hb4⟩
            simp only
            have HT4 := hide (HTI.out.below hb4)
            have HO4 := hide (own_below HOD.out hb4 (Nat.le_refl _))
            have HX4 : Hid (OutP (fun k => k = q12 ∨ ownC (.slice A4 d.length c4, d) k) Wr W4) := hide (OutP.of_below hb4)
            clear x0 x1 hb4 HW3 HOD HTI
            obtain ⟨y5, y7, y12, f12⟩ := HT4.out.cells
            have hwk : IntKind.i64.wrap ((k : Int) + 1) = (k : Int) + 1 := Go.IntWalk.i64_in _ (by omega)
            have HLN : Hid ((pre ++ [((.slice A4 d.length c4 : Value), d)]).length = k + 1) := hide (by rw [List.length_append, ← HK.out]; rfl)
            by_cases hk0 : k = 0
            · have HCD : Hid (ch = d) := hide (by
                have h0 : pre = [] := List.eq_nil_of_length_eq_zero (by rw [← HK.out]; exact hk0)
                have h1 := HPRE.out
                rw [h0] at h1
                rw [HCH.out]
                exact (pre_head h1 (choicesW_first ls _)).symm)
              have e0 : ((k : Int) == 0) = true := by simp; omega
              have e5 : ((k : Int) + 1 == 5) = false := by rw [beq_eq_false_iff_ne]; omega
              have HL5 : Hid (k + 1 < 5) := hide (by omega)
              have hclen : ch.length * 8 ≤ 140737488351232 := by have := HCL.out; omega
              have hdlen : d.length * 8 ≤ 140737488351232 := by have := HDL.out; omega
              have HCC := hide (compare_any A3 c3 ch A4 c4 d W4 (Reads.of_own HT4.out.own) (Reads.of_own HO4.out) hclen hdlen)
              have hcz : cmpL ch d = 0 := by rw [HCD.out]; exact cmpL_self d
              rw [hcz] at HCC
              clear hcz hclen hdlen
              gi_wp2_with fail
              refine ⟨trivial, (callsIn_in HCC.out).mono ?_⟩
              rintro e W5 ⟨rfl, hb5⟩
              simp only
              have HT5 := hide (HT4.out.below hb5)
              have HX5 := hide (HX4.out.trans (OutP.of_below hb5))
              clear hb5 y5 y7 y12 f12 HCC HX4 HT4 HO4 hk0
              obtain ⟨y5, y7, y12, f12⟩ := HT5.out.cells
              have HT6 := hide (HT5.out.next (k + 1))
              have HX6 := hide (HX5.out.set ⟨q12, 0, none⟩ (.inl rfl) (.int .i64 ((k + 1 : Nat) : Int)))
              have hkk : ((k + 1 : Nat) : Int) = (k : Int) + 1 := by omega
              rw [hkk] at HT6 HX6
              have g12 := HT6.out.cells.2.2.1
              rw [hkk] at g12
              clear hkk
              gi_wp2_with fail
              exact ⟨HX6.out, by show (pre ++ _).length < 5; rw [HLN.out]; exact HL5.out, by show TopI w n A ls.length c q5 A3 c3 bw q7 q12 ch (pre ++ _).length _; rw [HLN.out]; exact HT6.out⟩
            · have e0 : ((k : Int) == 0) = false := by simp; omega
              have HT6 := hide (HT4.out.next (k + 1))
              have HX6 := hide (HX4.out.set ⟨q12, 0, none⟩ (.inl rfl) (.int .i64 ((k + 1 : Nat) : Int)))
              have hkk : ((k + 1 : Nat) : Int) = (k : Int) + 1 := by omega
              rw [hkk] at HT6 HX6
              have g12 := HT6.out.cells.2.2.1
              rw [hkk] at g12
              clear hkk hk0
              gi_wp2_with fail
              refine ⟨trivial, ?_⟩
              by_cases h5 : k + 1 = 5
              · have HT7 : Hid (TopI w n A ls.length c q5 A3 c3 bw q7 q12 ch 5 (W4.setCell ⟨q12, 0, none⟩ (.int .i64 ((k : Int) + 1)))) := hide (h5 ▸ HT6.out)
                have e5 : ((k : Int) + 1 == 5) = true := by rw [beq_iff_eq]; omega
                clear h5
                gi_wp2_with fail
                exact ⟨HX6.out, ⟨0, rfl, rfl⟩, HT7.out⟩
              · have e5 : ((k : Int) + 1 == 5) = false := by rw [beq_eq_false_iff_ne]; omega
                have HL5 : Hid (k + 1 < 5) := hide (by omega)
                clear h5
                gi_wp2_with fail
                exact ⟨HX6.out, by show (pre ++ _).length < 5; rw [HLN.out]; exact HL5.out, by show TopI w n A ls.length c q5 A3 c3 bw q7 q12 ch (pre ++ _).length _; rw [HLN.out]; exact HT6.out⟩
          case done3 =>
            rintro D xs W' hD hS ⟨_, hti⟩ hK
            have hpos : 0 < xs.length := by
              cases xs with
              | nil =>
                have h1 := choicesW_first ls (allG n.toNat)
                rw [← hS] at h1
                simp at h1
              | cons a b => simp
            clear hS
            generalize xs.length = kx at *
            have HTI := hide hti
            have y12 := hti.cells.2.2.1
            have hgz : decide ((0 : Int) < (kx : Int)) = true := decide_eq_true (by omega)
            have HKD := hide hK
            have HDD : Hid (w.heap.size + 2 ≤ D) := hide (by have := HI9.out.lo; have := HQ12.out; have := HZ9.out; omega)
            clear hti hK hD
            gi_wp2_with fail
            refine ⟨trivial, (callsIn_wide.2 (HKN.out W')).mono ?_⟩
            rintro e Wz ⟨rfl, hbz⟩
            simp only
            have HRz := hide (HTI.out.r.below hbz)
            have HKz := hide ((hbz.block _ (lt_of_block HKD.out)).trans HKD.out)
            have HR10 := hide (HRz.out.says true)
            have HK10 := hide ((Below.heap_setCell Wz ⟨w.heap.size + 1, 0, none⟩ (.bool true) D (by have := HDD.out; show D ≠ w.heap.size + 1; omega)).trans HKz.out)
            clear hbz y12
            obtain ⟨_, _, x2, x3⟩ := HRz.out.cells
            gi_wp2_with fail
            exact tops_end HR10.out HDD.out HK10.out (fun W' h => by simp [results, Try.results7, go_sem, h])
          case stop3 =>
            rintro D c' pre W' hD hpre ⟨⟨id, rfl, rfl⟩, hti⟩ hK
            have HTI := hide hti
            have y12 := hti.cells.2.2.1
            clear hpre
            have HKD := hide hK
            have HDD : Hid (w.heap.size + 2 ≤ D) := hide (by have := HI9.out.lo; have := HQ12.out; have := HZ9.out; omega)
            clear hti hK hD
            gi_wp2_with fail
            refine ⟨trivial, (callsIn_wide.2 (HKN.out W')).mono ?_⟩
            rintro e Wz ⟨rfl, hbz⟩
            simp only
            have HRz := hide (HTI.out.r.below hbz)
            have HKz := hide ((hbz.block _ (lt_of_block HKD.out)).trans HKD.out)
            have HR10 := hide (HRz.out.says true)
            have HK10 := hide ((Below.heap_setCell Wz ⟨w.heap.size + 1, 0, none⟩ (.bool true) D (by have := HDD.out; show D ≠ w.heap.size + 1; omega)).trans HKz.out)
            clear hbz y12
            obtain ⟨_, _, x2, x3⟩ := HRz.out.cells
            gi_wp2_with fail
            exact tops_end HR10.out HDD.out HK10.out (fun W' h => by simp [results, Try.results7, go_sem, h])
    · rw [best_bad hie] at HBE
      have hne : (instE n ls != 0) = true := by simpa using hie
      clear hie
      refine ⟨trivial, (callsIn_wide.2 HBE.out).mono ?_⟩
      rintro e w3 ⟨v3, rfl, hown3, hb3⟩
      obtain ⟨A3, c3, rfl, _⟩ := own_sh hown3
      have HR3 := hide (HR2.out.below hb3)
      simp only
      clear hb3 hown3 x0 x1 HBE
      simp only [List.length_nil]
      have HR4 := hide (HR3.out.below ((Below.refl _ _).alloc (Nat.le_refl _) (.cells #[.slice A3 0 c3, .int .i64 0] 35)))
      have HC4 : Hid ((w3.alloc (.cells #[.slice A3 0 c3, .int .i64 0] 35)).heap[w3.heap.size]? = some (.cells #[.slice A3 0 c3, .int .i64 0] 35 (0, 0))) := hide (heap_alloc_new w3 _)
      have y0 := cell_of_row _ w3.heap.size 0 _ _ (0, 0) HC4.out
      have y1 := cell_of_row _ w3.heap.size 1 _ _ (0, 0) HC4.out
      simp at y0 y1
      gi_wp2_with fail
      clear y0 y1
      generalize w3.alloc (.cells #[.slice A3 0 c3, .int .i64 0] 35) = w4 at *
      refine ⟨trivial, (callsIn_wide.2 (HKN.out w4)).mono ?_⟩
      rintro e w5 ⟨rfl, hb5⟩
      have HR5 := hide (HR4.out.below hb5)
      clear hb5
      obtain ⟨_, _, x2, x3⟩ := HR5.out.cells
      have HR6 := hide (HR5.out.says true)
      gi_wp2_with fail
      exact tops_ret HR6.out (fun W' h => by simp [results, Try.results7, go_sem, h])
  · obtain ⟨x0, x1, x2, x3⟩ := HR2.out.cells
    gi_wp2_with fail
    refine ⟨trivial, (callsIn_wide.2 (HKN.out w2)).mono ?_⟩
    rintro e w3 ⟨rfl, hb3⟩
    have HR3 := hide (HR2.out.below hb3)
    clear hb3 x0 x1 x2 x3
    obtain ⟨x0, x1, x2, x3⟩ := HR3.out.cells
    have HR4 := hide (HR3.out.says true)
    gi_wp2_with fail
    exact tops_ret HR4.out (fun W' h => by simp [results, Try.results7, go_sem, h])
end Go.Proofs.Ytkjmpenaifhfjaa
