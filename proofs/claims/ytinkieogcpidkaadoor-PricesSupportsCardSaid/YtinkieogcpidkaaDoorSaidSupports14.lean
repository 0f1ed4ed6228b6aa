/- Proved: gavellaw14.PricesSupports answers true for every input, and leaves it as it was; the table of math/bits is tied to the program's text. Conditions: none. -/
import Derived.Test.YtinkieogcpidkaaDoorLwS
import Derived.Test.YtinkieogcpidkaaDoorOpen
import Derived.Test.YtinkieogcpidkaaDoorTie
import Derived.Test.YtinkieogcpidkaaDoorCards
import Derived.SizedLaws
import Derived.LaidMore
import Derived.Stop.Joined
namespace Go.Proofs.YtinkieogcpidkaaDoor
open Go.ChangeShapes Go.WideShapes Go.ChangeAt Go.RowKit Go.Joins

theorem own : ownKnob Tryd.prog.godebug = none := by kernel_rfl
theorem laidOut : laidOutB Tryd.prog = true := by kernel_rfl
theorem resultLaw : (Tryd.f4).resultTypes = #[4] := by kernel_rfl
theorem read0 : Tryd.prog.readableRec 24 = true := by kernel_rfl
theorem there0 : 24 < Tryd.prog.types.size := of_decide_eq_true (by kernel_rfl)
theorem read1 : Tryd.prog.readableRec 45 = true := by kernel_rfl
theorem there1 : 45 < Tryd.prog.types.size := of_decide_eq_true (by kernel_rfl)
theorem read2 : Tryd.prog.readableRec 29 = true := by kernel_rfl
theorem there2 : 29 < Tryd.prog.types.size := of_decide_eq_true (by kernel_rfl)
theorem cellsI64 : Tryd.prog.cellsOf 2 = 1 := by kernel_rfl
theorem cellsInst : Tryd.prog.cellsOf 24 = 2 := by kernel_rfl
theorem cellsInt : Tryd.prog.cellsOf 3 = 1 := by kernel_rfl
theorem bytesInt : Tryd.prog.bytesOf 3 = 8 := by kernel_rfl
theorem gTab : Tryd.prog.globalNamed "math/bits.deBruijn32tab" = some 0 := by kernel_rfl
theorem tTab : (Tryd.prog.globals[0]?).map (·.type) = some 111 := by kernel_rfl
theorem cellsTab : Tryd.prog.cellsOf 111 = 32 := by kernel_rfl
theorem cellsU8 : Tryd.prog.cellsOf 5 = 1 := by kernel_rfl
theorem tabData : Rows.laid_math_bits_deBruijn32tab (H := Unit) = .agg (Lib.deBruijn32tab.map fun (n : Nat) => .lit (.int .u8 (n : Int))) := rfl

def laidL : List (String × DataW Unit) := [("math/bits.deBruijn32tab", Rows.laid_math_bits_deBruijn32tab)]
theorem door_met (os : Os) (args : Array Value) : laidMetH Tryd.prog laidL ((World.doorLaid Tryd.prog 400 os).forCall (fun _ _ => 0) ⟨#[], args, []⟩).memory :=
  laidMetH_of_parts3 (fuel := 8) (laidMet_of_run' 8 (by kernel_rfl) (by kernel_rfl)) (by kernel_rfl) (by kernel_rfl)
/-- What the listed variable gives the walk: the table's cells. -/
theorem tab_of_laid {W : World} (h : laidMetH Tryd.prog laidL W) : TabW W := by
  rw [MakeChecks.laidMetH_plain _ _ _ (by kernel_rfl)] at h
  obtain ⟨ps, ⟨g0, t0, cs0, f0, p0, q0, hg0, ht0, hv0, hd0, _, _⟩, _, _⟩ := h
  obtain rfl := Option.some.inj (gTab.symm.trans hg0)
  obtain rfl := Option.some.inj (tTab.symm.trans ht0)
  obtain ⟨xs, m1, rfl, hx1, hlen, hn, hel⟩ := DataW.trod_array Tryd.underlying111 hd0
  simp only [Prod.mk.injEq] at hx1
  obtain ⟨hx1, _⟩ := hx1
  rw [tabData] at hx1
  injection hx1 with hx1
  intro j hj
  have h1 := hel j hj
  rw [cellsU8, Nat.mul_one, List.getElem?_eq_getElem (by omega)] at h1
  obtain ⟨k, e1, e2, _⟩ := DataW.trod_int Tryd.underlying5 h1
  have h3 : (xs.map (·.1))[j]? = some (.lit (.int .u8 k)) := by
    rw [List.getElem?_map, List.getElem?_eq_getElem (by omega), e2]
    rfl
  rw [← hx1, List.getElem?_map] at h3
  have h4 : Lib.deBruijn32tab[j]? = some (Lib.deBruijn32tab.getD j 0) := by
    rw [List.getD_eq_getElem?_getD, List.getElem?_eq_getElem (show j < Lib.deBruijn32tab.length from hj)]
    rfl
  rw [h4] at h3
  simp only [Option.map_some, Option.some.injEq, DataW.lit.injEq, Lit.int.injEq, true_and] at h3
  subst h3
  have h5 := World.var?_cell hg0 hv0 j
  have h6 : (cs0.toList.drop j).head? = some (.int .u8 (Lib.deBruijn32tab.getD j 0 : Nat)) := by
    have := congrArg List.head? e1
    rw [List.head?_take, if_neg (by omega)] at this
    exact this
  rw [List.head?_drop, Array.getElem?_toList] at h6
  exact h5.trans h6

section
variable {H : Type} {enc : TypeId × Value → H} {w : World} {base : Nat} {spare : Nat → Bool} {held : Bool}
/-- A slice of ints reads as a list; what it weighs. -/
theorem open_list {fuel : Nat} {cs : List Value} {x : DataW H × List MemPlace} (h : DataW.trod enc Tryd.prog w base spare held fuel 45 cs = some x) :
    ∃ (A : Option Addr) (c : Nat) (zs : List Int), cs = [.slice A zs.length c] ∧ One intV w w.heap.size A zs ∧ (zs.length = 0 ∨ ∃ elems rest, x.1 = .slice elems rest ∧ elems.length = zs.length) := by
  rcases open_ints Tryd.underlying45 Tryd.underlying3 cellsInt h with ⟨rfl, hx⟩ | ⟨a, len, cap, zs, rfl, _, hl, hm, hz, hx, hcell, hwz⟩
  · exact ⟨none, 0, [], rfl, by simpa using One.none_ w w.heap.size, .inl rfl⟩
  · have hz' : len ≤ zs.length := by
      rw [hz]
      split <;> omega
    have hlen : (zs.take len).length = len := by simp; omega
    refine ⟨some a, cap, zs.take len, by rw [hlen], ?_, .inr ⟨_, _, by rw [hx], by simp [lits]⟩⟩
    unfold One
    rw [hlen]
    refine ⟨by simp; omega, fun hn => ?_⟩
    obtain ⟨b, off, rfl, hc⟩ := ints_at hcell (by omega)
    refine ⟨b, off, rfl, lt_of_cell (hc 0 (by omega)), fun j u hu => ?_⟩
    rw [List.getElem?_map, List.getElem?_take] at hu
    split at hu
    · rename_i hj
      have hjz : j < zs.length := by omega
      rw [List.getElem?_eq_getElem hjz] at hu
      injection hu with hu
      rw [hc j hjz, ← hu, List.getD_eq_getElem?_getD, List.getElem?_eq_getElem hjz]
      rfl
    · simp at hu
end

section
variable {H : Type} {enc : TypeId × Value → H} {w : World} {base : Nat} {spare : Nat → Bool} {held : Bool}
/-- A slice of numbers reads as a list; what it weighs. -/
theorem open_list64 {fuel : Nat} {cs : List Value} {x : DataW H × List MemPlace} (h : DataW.trod enc Tryd.prog w base spare held fuel 29 cs = some x) :
    ∃ (A : Option Addr) (c : Nat) (zs : List Int), cs = [.slice A zs.length c] ∧ One intV w w.heap.size A zs ∧ (zs.length = 0 ∨ ∃ elems rest, x.1 = .slice elems rest ∧ elems.length = zs.length) := by
  rcases open_ints Tryd.underlying29 Tryd.underlying2 cellsI64 h with ⟨rfl, hx⟩ | ⟨a, len, cap, zs, rfl, _, hl, hm, hz, hx, hcell, hwz⟩
  · exact ⟨none, 0, [], rfl, by simpa using One.none_ w w.heap.size, .inl rfl⟩
  · have hz' : len ≤ zs.length := by
      rw [hz]
      split <;> omega
    have hlen : (zs.take len).length = len := by simp; omega
    refine ⟨some a, cap, zs.take len, by rw [hlen], ?_, .inr ⟨_, _, by rw [hx], by simp [lits]⟩⟩
    unfold One
    rw [hlen]
    refine ⟨by simp; omega, fun hn => ?_⟩
    obtain ⟨b, off, rfl, hc⟩ := ints_at hcell (by omega)
    refine ⟨b, off, rfl, lt_of_cell (hc 0 (by omega)), fun j u hu => ?_⟩
    rw [List.getElem?_map, List.getElem?_take] at hu
    split at hu
    · rename_i hj
      have hjz : j < zs.length := by omega
      rw [List.getElem?_eq_getElem hjz] at hu
      injection hu with hu
      rw [hc j hjz, ← hu, List.getD_eq_getElem?_getD, List.getElem?_eq_getElem hjz]
      rfl
    · simp at hu
end

set_option maxRecDepth 100000 in
set_option maxHeartbeats 1000000 in
theorem lifted (os : Os) (started : os.Started) (H : Type) (enc : TypeId × Value → H) :
    ReturnsInHanded {} Tryd.checked os 4 .any (fun w args => (Rows.pricesSupportsSpec.pre enc Tryd.prog Tryd.f4 [] false w args ∧ laidMetH Tryd.prog laidL w) ∧ sizedMet enc Tryd.prog Tryd.f4 (OpenSpec.ofChange Rows.pricesSupportsSpec) false w args)
      (Rows.pricesSupportsSpec.post enc Tryd.prog Tryd.f4 false true false false) := by
  refine returnsInHanded_of_change_and (C := Tryd.checked) (X := fun w _ => laidMetH Tryd.prog laidL w) (fun _ _ _ hh h => h.of_heap hh) own started (by kernel_rfl) Tryd.func4
    (ChangeSpec.witness_shaped (enc := enc) (C := Tryd.checked) (os := os) (X := fun w _ => laidMetH Tryd.prog laidL w) false (World.doorLaid Tryd.prog 400 os) #[.agg #[.int .i64 0, .slice none 0 0], .slice none 0 0, .slice none 0 0] 8 rfl (World.shaped_of_RefB (by kernel_rfl) (by kernel_rfl)) (by kernel_rfl) (by kernel_rfl) (by kernel_rfl) (door_met os _)) ?_
  intro W base args ds gs before hval0 hW _ hsz0 hL _
  have hval : ∀ (j : Nat) t v, (Tryd.f4).params[j]? = some t → args[j]? = some v → Value.okWide Tryd.prog W .any base t v := hval0
  have hW' := hW
  have hsz : (DataW.weightsEach Tryd.prog ((Tryd.f4).params.toList ++ Rows.pricesSupportsSpec.plain.varTypes Tryd.prog) (ds ++ gs)).all (· ≤ reachBytes) = true := hsz0
  obtain ⟨p, q, hA0, hV, rfl, hfz, hnd⟩ := hW
  have hA : DataW.TrodAll enc Tryd.prog W 0 (fun _ => true) true (Tryd.f4).params.toList args.toList ds p := hA0
  rw [Tryd.params4] at hA hval hsz
  obtain ⟨v0, vs0, d0, ds0, p0, q0, hargs, rfl, rfl, h0, r0⟩ := trodAll_cons hA
  obtain ⟨v1, vs1, d1, ds1, p1, q1, rfl, rfl, rfl, h1, r1⟩ := trodAll_cons r0
  obtain ⟨v2, vs2, d2, ds2, p2, q2, rfl, rfl, rfl, h2, r2⟩ := trodAll_cons r1
  obtain ⟨rfl, rfl, rfl⟩ := trodAll_nil r2
  obtain rfl : args = #[v0, v1, v2] := by cases args; simp_all
  refine law_post (P := Tryd.prog) laidOut Tryd.underlying4 resultLaw (fun t ht => ?_) rfl hW' rfl ?_
  · rw [Tryd.params4] at ht
    have ht2 : t = 24 ∨ t = 45 ∨ t = 29 := by simp at ht; first | omega | (rcases ht with h | h | h <;> subst h <;> simp)
    rcases ht2 with rfl | rfl | rfl
    · exact ⟨read0, there0⟩
    · exact ⟨read1, there1⟩
    · exact ⟨read2, there2⟩
  · obtain ⟨ca0, cb0, ya0, yb0, m0, rfl, rfl, rfl, hya0, hyb0⟩ := open_agg2 Tryd.underlying24 (by kernel_rfl) cellsInst (hval 0 24 v0 rfl rfl) h0
    obtain ⟨n0, en0, rfl, wn0⟩ := DataW.trod_int Tryd.underlying3 hya0
    have hk0 := bounds_i64 wn0
    obtain ⟨A0, hs0, ls0, c0, e0, hlc0, hcm0, hwd0, hni0, hlm0, hb0⟩ := open_buys hyb0
    simp only [List.cons.injEq, and_true] at en0 e0
    subst en0 e0
    have hml0 : (ls0.length : Int) ≤ 9223372036854775807 := by unfold maxLen at hcm0; omega
    obtain ⟨a1, len1, cap1, rfl⟩ := okWide_slice Tryd.underlying45 (hval 1 45 v1 rfl rfl)
    obtain ⟨f1, h1⟩ := h1
    obtain ⟨A1, c1, z1, e1, ho1, hwt1⟩ := open_list h1
    simp only [Value.cells, List.cons.injEq, and_true, Value.slice.injEq] at e1
    obtain ⟨rfl, rfl, rfl⟩ := e1
    have hr1 : z1.length * 8 ≤ 140737488351232 := by
      rcases hwt1 with h | ⟨elems, rest, he, hl⟩
      · omega
      · have he' : d1 = .slice elems rest := he
        subst he'
        have := sized_slice hsz (j := 1) (t := 45) (e := 3) rfl rfl Tryd.underlying45
        rw [bytesInt] at this
        unfold reachBytes at this
        omega
    obtain ⟨a2, len2, cap2, rfl⟩ := okWide_slice Tryd.underlying29 (hval 2 29 v2 rfl rfl)
    obtain ⟨f2, h2⟩ := h2
    obtain ⟨A2, c2, z2, e2, ho2, _⟩ := open_list64 h2
    simp only [Value.cells, List.cons.injEq, and_true, Value.slice.injEq] at e2
    obtain ⟨rfl, rfl, rfl⟩ := e2
    exact supportsLaw_any n0 A0 c0 hs0 ls0 _ _ z1 _ _ z2 W (tab_of_laid hL) hb0 hml0 hwd0 ho1 ho2

theorem over : Rows.pricesSupportsRow.holds Tryd.pinned (OpenSpec.ofChange Rows.pricesSupportsSpec) :=
  OpenClaim.holds_of_wide 4 Tryd.f4 rfl rfl rfl rfl rfl rfl rfl ⟨rfl, rfl, rfl, rfl, rfl⟩ rfl rfl rfl rfl rfl (by kernel_rfl) Tryd.func4 (by kernel_rfl)
    (of_decide_eq_true (by kernel_rfl)) (by unfold Func.isWrapper; first | (rw [if_pos (by decide +kernel)]; kernel_rfl) | (rw [if_neg (by decide +kernel)]; exact ⟨rfl, rfl⟩))
    (fun os started H enc _ => lifted os started H enc)

theorem prices_supports : Rows.PricesSupportsCardSaid :=
  Claim7.holds_tied_plain_at .later [] [.data] true _ false
    over (fun _ h => by cases h) (by kernel_rfl) (fun _ h => by cases h) pricesSupports_row_tie rfl ⟨rfl, rfl⟩ (by kernel_rfl) rfl
    (fun f fn hf hfn => by
      obtain rfl : f = 4 := Option.some.inj ((show Tryd.prog.funcNamed "gavel/gavellaw14.PricesSupports" = some 4 by kernel_rfl).symm.trans hf) |>.symm
      obtain rfl : fn = Tryd.f4 := (Option.some.inj (Tryd.func4.symm.trans hfn)).symm
      exact ⟨by kernel_rfl, fun j t ht => by
        rw [Tryd.params4] at ht
        have hm : t ∈ [24, 45, 29] := by
          have := Array.mem_of_getElem? ht
          simp at this
          simp
          first | omega | (rcases this with h | h | h <;> subst h <;> simp) | (rcases this with h | h <;> subst h <;> simp)
        have hall : ([24, 45, 29].all fun u => !Tryd.prog.wantsStandIn u) = true := by kernel_rfl
        exact (show Tryd.prog.wantsStandIn t = false by simpa using List.all_eq_true.1 hall t hm)⟩)
    (by kernel_rfl)
#print axioms prices_supports
end Go.Proofs.YtinkieogcpidkaaDoor
