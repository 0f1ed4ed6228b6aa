/- The walk of sealed.Sell. -/
import Derived.Test.YtnidmoljhopcoaaSell
import Derived.Maps.Own
import Derived.Maps.OwnOps
import Derived.Maps.OwnSet
import Derived.Maps.Views
namespace Go.Proofs.Ytnidmoljhopcoaa
open Go.RowKit Go.Maps
open Go.ChangeMaps Go.WideMaps

theorem contains25 (A : Option Addr) (c : Nat) (l : List (Int × Int)) (w : World) (h : Bids w w.heap.size A l) (hl : l.length ≤ 1000000) :
    Calls Try.prog 27 #[.slice A l.length c, .func (.func 25) #[] #[]] w (ValPost (.bool (decide (0 ≤ idxTo badB l))) w) := by
  have H := hide (index25 A c l w h hl)
  generalize idxTo badB l = i at *
  go_enter Try.func27, Try.ntmps27
  go_wp2_with (go_at_call 42; refine (H.out).mono ?_; rintro e w' ⟨rfl, hb⟩)
  go_ret
  exact ⟨rfl, hb⟩
theorem idx_any (p : Int × Int → Bool) (l : List (Int × Int)) : decide (0 ≤ idxTo p l) = l.any p := by
  unfold idxTo
  cases h : l.findIdx? p with
  | none =>
    rw [List.findIdx?_eq_none_iff] at h
    have : l.any p = false := by
      rw [List.any_eq_false]
      intro x hx
      simp [h x hx]
    rw [this]
    rfl
  | some i =>
    rw [List.findIdx?_eq_some_iff_getElem] at h
    obtain ⟨hi, hp, _⟩ := h
    have : l.any p = true := List.any_eq_true.2 ⟨_, List.getElem_mem hi, hp⟩
    rw [this]
    simp

abbrev Z0 : DataW Unit := .lit (.int .i64 0)
def kb (b : Int) : Lit := .int .i64 b
structure SeenOf (bs : List Int) (D : DataW Unit) : Prop where
  at_ : ∀ b : Int, D.atKey (kb b) Z0 = .lit (.int .i64 (if b ∈ bs then 1 else 0))
theorem SeenOf.nil : SeenOf [] (.map []) := ⟨fun b => by simp [DataW.atKey]⟩
theorem SeenOf.push {bs : List Int} {D : DataW Unit} (h : SeenOf bs D) (hD : IsMap D) {b : Int} : SeenOf (bs ++ [b]) (D.put (kb b) (.lit (.int .i64 1))) := by
  refine ⟨fun x => ?_⟩
  by_cases e : x = b
  · subst e
    rw [atKey_put_same hD (by trivial)]
    simp
  · rw [atKey_put_other (fun h => e (by injection h))]
    rw [h.at_]
    simp [e]

def Wide (l : List (Int × Int)) : Prop := ∀ x ∈ l, -9223372036854775808 ≤ x.1 ∧ x.1 ≤ 9223372036854775807
def dupB (l : List (Int × Int)) : Bool := decide (¬ (l.map (·.1)).Nodup)
def sellI (floor : Int) (l : List (Int × Int)) : SoldT × Int :=
  if coinsB floor = false ∨ l.any badB = true then (noSold, 2) else if dupB l = true then (noSold, 5) else (comeI floor l, 0)
def pairV (s : SoldT × Int) : Value := .tuple #[soldV s.1, .int .i64 s.2]
theorem law3 : Keyed Try.prog 3 := int_keyed Try.underlying3
theorem zero3 (w : World) : (zeroValue 3).run Try.prog w = .ok (.int .i64 0) w := by kernel_rfl

structure SellRel (w : World) (m : Nat) (l : List (Int × Int)) (k : Nat) (wr : World) : Prop where
  map : ∃ D, wr.ownsMap Try.prog 3 (plainElem Try.prog 3) m k D ∧ SeenOf ((l.take k).map (·.1)) D
  nd : ((l.take k).map (·.1)).Nodup
  res : wr.heap[w.heap.size]? = some (.cells #[.bool false, .int .i64 0, .int .i64 0, .int .i64 0] 27 (0, 0))
  bel : Below w.heap.size w wr
  lt : w.heap.size < m
theorem take_fst {l : List (Int × Int)} {k : Nat} {x : Int × Int} (hx : l[k]? = some x) : (l.take (k + 1)).map (·.1) = (l.take k).map (·.1) ++ [x.1] := by
  obtain ⟨hk, rfl⟩ := List.getElem?_eq_some_iff.1 hx
  rw [List.take_succ_eq_append_getElem hk, List.map_append]
  rfl
theorem dup_of {l : List (Int × Int)} {k : Nat} {x : Int × Int} (hx : l[k]? = some x) (hm : x.1 ∈ (l.take k).map (·.1)) : dupB l = true := by
  have h : ¬ (l.map (·.1)).Nodup := fun hn => by
    have h1 : ((l.take (k + 1)).map (·.1)).Nodup := by
      rw [← List.take_append_drop (k + 1) l, List.map_append, List.nodup_append] at hn
      exact hn.1
    rw [take_fst hx, List.nodup_append] at h1
    exact h1.2.2 _ hm _ (by simp) rfl
  simp [dupB, h]

set_option maxRecDepth 100000 in
set_option maxHeartbeats 2000000 in
theorem sell_any (floor : Int) (A : Option Addr) (c : Nat) (l : List (Int × Int)) (w : World) (h : Bids w w.heap.size A l) (hl : l.length ≤ 1000000) (hw : Wide l) :
    Calls Try.prog 7 #[.int .i64 floor, .slice A l.length c] w (ValPost (pairV (sellI floor l)) w) := by
  have HCO := hide (fun W : World => coins_any floor W)
  have HCT : Hid (∀ W, Below w.heap.size w W → Calls Try.prog 27 #[.slice A l.length c, .func (.func 25) #[] #[]] W (ValPost (.bool (l.any badB)) W)) :=
    hide (fun W hb => by rw [← idx_any]; exact contains25 A c l W ((h.below hb).more hb.size) hl)
  have hmm := @run_makeMap Try.prog
  by_cases h1 : coinsB floor = false
  · have hr : sellI floor l = (noSold, 2) := by unfold sellI; rw [if_pos (.inl h1)]
    have HR := hide hr; clear hr
    rw [h1] at HCO
    clear h1
    go_enter Try.func7, Try.ntmps7
    go_wp2_with (go_at_call 26; refine (HCO.out _).mono ?_; rintro e w' ⟨rfl, rfl⟩)
    refine bodyPost_ret (v := pairV (noSold, 2)) (by simp [results, Try.results7, go_sem, pairV, soldV, noSold]) rfl ?_
    refine ⟨by rw [HR.out], ?_⟩
    repeat (refine Below.setCell ?_ (by exact Nat.le_refl _) _)
    exact (Below.refl _ _).alloc (Nat.le_refl _) _
  · have h1' : coinsB floor = true := by simpa using h1
    rw [h1'] at HCO
    by_cases h2 : l.any badB = true
    · have hr : sellI floor l = (noSold, 2) := by unfold sellI; rw [if_pos (.inr h2)]
      have HR := hide hr; clear hr
      rw [h2] at HCT
      clear h1 h1' h2
      go_enter Try.func7, Try.ntmps7
      go_wp2_with (first | (go_at_call 26; refine (HCO.out _).mono ?_; rintro e w' ⟨rfl, rfl⟩) | (go_at_call 27; refine (HCT.out _ ((Below.refl _ _).alloc (Nat.le_refl _) _)).mono ?_; rintro e w1 ⟨rfl, hb1⟩; have hc1 := fun o => (bcell hb1).1 w.heap.size o (by simp); have hf1 := fun o => (bcell hb1).2 w.heap.size o (by simp); have hz1 : w.heap.size < w1.heap.size := by have := hb1.size; simp at this; omega))
      refine bodyPost_ret (v := pairV (noSold, 2)) (by simp [results, Try.results7, go_sem, pairV, soldV, noSold, hc1, hz1]) rfl ?_
      refine ⟨by rw [HR.out], ?_⟩
      repeat (refine Below.setCell ?_ (by exact Nat.le_refl _) _)
      exact ((Below.refl _ _).alloc (Nat.le_refl _) _).trans (hb1.mono (B' := w.heap.size) (by simp))
    · have h2' : l.any badB = false := by simpa using h2
      rw [h2'] at HCT
      have hsell : sellI floor l = if dupB l = true then (noSold, 5) else (comeI floor l, 0) := by unfold sellI; rw [if_neg (by rw [h1', h2']; simp)]
      have HSE := hide hsell
      clear h1 h1' h2 h2' hsell
      go_enter Try.func7, Try.ntmps7
      go_wp2_with (first | (go_at_call 26; refine (HCO.out _).mono ?_; rintro e w' ⟨rfl, rfl⟩) | (go_at_call 27; refine (HCT.out _ ((Below.refl _ _).alloc (Nat.le_refl _) _)).mono ?_; rintro e w1 ⟨rfl, hb1⟩; have hc1 := fun o => (bcell hb1).1 w.heap.size o (by simp); have hf1 := fun o => (bcell hb1).2 w.heap.size o (by simp); have hz1 : w.heap.size < w1.heap.size := by have := hb1.size; simp at this; omega))
      go_loopw [22] (fun i wr => ∃ k : Nat, k ≤ l.length ∧ i = .int .i64 k ∧ SellRel w w1.heap.size l k wr) (fun i _ => l.length - (intOf i).toNat)
      case atStart =>
        refine ⟨0, Nat.zero_le _, rfl, ⟨_, World.ownsMap_made _ _ _ _, SeenOf.nil⟩, by simp, ?_, (((Below.refl _ _).alloc (Nat.le_refl _) _).trans (hb1.mono (B' := w.heap.size) (by simp))).alloc (by omega) _, hz1⟩
        rw [Below.heap_alloc _ _ _ hz1, hb1.block _ (by simp)]
        exact heap_alloc_new w _
      case round =>
        obtain ⟨k, hk, rfl, hr⟩ := hrel
        by_cases hlt : k < l.length
        · obtain ⟨b, o, rfl, hbB, hc⟩ := h.at_ (by omega)
          obtain ⟨x, hx⟩ : ∃ x, l[k]? = some x := ⟨l[k], List.getElem?_eq_getElem hlt⟩
          obtain ⟨hc0, hc1'⟩ := hc k x hx
          have d0 := (hr.bel.cell (p := ⟨b, o + k * 2, none⟩) hbB).trans hc0
          have d1 := (hr.bel.cell (p := ⟨b, o + k * 2 + 1, none⟩) hbB).trans hc1'
          have hz := hr.bel.size
          obtain ⟨D, hmap, hD⟩ := hr.map
          have hmlt := hmap.lt
          have hwx := hw x (List.mem_of_getElem? hx)
          obtain ⟨x1, x2⟩ := x
          simp only at d0 d1 hwx
          obtain ⟨wx1, wx2⟩ := hwx
          have hkey := keyOf_int_mk (P := Try.prog) (q := .i64) (a := x1) Try.underlying3 (WalkArith.wf_i64 (by omega))
          have HM := hide hmap
          have HD := hide (hD.at_ x1)
          have HDD := hide hD
          have HX := hide hx
          have HRR := hide hr
          have HK := hide hkey
          have tok1 : True := trivial
          clear hc0 hc1' hc hx hr hmap hD hkey
          have HBX : Hid (∀ w2, (wr.alloc (.cells #[.int .i64 x1, .int .i64 x2] 33)).grownBy w2 (some w1.heap.size) → w2.cell? ⟨wr.heap.size, 0, none⟩ = some (.int .i64 x1)) :=
            hide (fun w2 hg => hg.cell (World.cell?_alloc_mark wr _ 33 (0, 0) 0) (by simp; omega))
          have HRES : Hid (∀ w2, (wr.alloc (.cells #[.int .i64 x1, .int .i64 x2] 33)).grownBy w2 (some w1.heap.size) → w2.heap[w.heap.size]? = some (.cells #[.bool false, .int .i64 0, .int .i64 0, .int .i64 0] 27 (0, 0))) :=
            hide (fun w2 hg => by
              have hlt2 := lt_of_block HRR.out.res
              rw [hg.block _ (by rw [World.size_alloc]; omega) (by have := HRR.out.lt; simp; omega), Below.heap_alloc _ _ _ hlt2]
              exact HRR.out.res)
          have HBEL : Hid (∀ w2, (wr.alloc (.cells #[.int .i64 x1, .int .i64 x2] 33)).grownBy w2 (some w1.heap.size) → Below w.heap.size w w2) :=
            hide (fun w2 hg => (HRR.out.bel.alloc hz _).grown hg (by rw [World.size_alloc]; omega) (fun k hk => by have := HRR.out.lt; have := Option.some.inj hk; omega))
          by_cases hin : x1 ∈ (l.take k).map (·.1)
          · have H0 : Hid (D.atKey (kb x1) Z0 = .lit (.int .i64 1)) := hide (by rw [HD.out, if_pos hin])
            have hdup := dup_of HX.out hin
            have HSEL := hide (HSE.out.trans (if_pos hdup))
            clear hin hdup
            go_wp2_with (first | (at_lookup; have _t := tok1; refine wpList_lookup_own_int _ rfl _ _ 75 rfl 3 3 .i64 law3 Try.underlying75 Try.underlying3 (zero3 _) w1.heap.size k D rfl (HM.out.alloc _) _ _ rfl HK.out ?_; intro c hat hwc; obtain rfl : c = 1 := (Lit.int.inj (DataW.lit.inj (hat.symm.trans H0.out))).2; clear tok1 hat hwc) | (at_mapUpdate; refine wpList_mapUpdate_own _ rfl _ _ _ 75 rfl 3 3 law3 Try.underlying75 _ w1.heap.size k D rfl (HM.out.alloc _) (by unfold maxLen; omega) _ _ _ rfl rfl HK.out (.lit (.int .i64 2)) [] (plainElem_int Try.underlying3 (by decide)) ?_; intro w2 hown2 hg2; have e0 := HBX.out w2 hg2; have er := HRES.out w2 hg2; have e1 := fun i => cell_of_row w2 w.heap.size i _ 27 (0, 0) er; have f1 : ∀ i, w2.frozen? ⟨w.heap.size, i, none⟩ = false := (fun i => by simp [World.frozen?, er]); have HB2 := hide (HBEL.out w2 hg2); have HO := hide hown2; clear er hg2 hown2) | (at_lookup; refine wpList_lookup_own_int _ rfl _ _ 75 rfl 3 3 .i64 law3 Try.underlying75 Try.underlying3 (zero3 _) w1.heap.size (k + 1) (D.put (kb x1) (.lit (.int .i64 2))) rfl HO.out _ _ rfl HK.out ?_; intro c2 hat hwc; obtain rfl : c2 = 2 := (Lit.int.inj (DataW.lit.inj (hat.symm.trans (atKey_put_same HM.out.isMap (by trivial) _ _)))).2; clear hat hwc))
            refine bodyPost_ret (v := pairV (noSold, 5)) (by simp [results, Try.results7, go_sem, pairV, soldV, noSold, e1]) rfl ?_
            refine ⟨by rw [HSEL.out], ?_⟩
            repeat (refine Below.setCell ?_ (by exact Nat.le_refl _) _)
            exact HB2.out
          · have H0 : Hid (D.atKey (kb x1) Z0 = .lit (.int .i64 0)) := hide (by rw [HD.out, if_neg hin])
            have HI := hide hin; clear hin
            go_wp2_with (first | (at_lookup; have _t := tok1; refine wpList_lookup_own_int _ rfl _ _ 75 rfl 3 3 .i64 law3 Try.underlying75 Try.underlying3 (zero3 _) w1.heap.size k D rfl (HM.out.alloc _) _ _ rfl HK.out ?_; intro c hat hwc; obtain rfl : c = 0 := (Lit.int.inj (DataW.lit.inj (hat.symm.trans H0.out))).2; clear tok1 hat hwc) | (at_mapUpdate; refine wpList_mapUpdate_own _ rfl _ _ _ 75 rfl 3 3 law3 Try.underlying75 _ w1.heap.size k D rfl (HM.out.alloc _) (by unfold maxLen; omega) _ _ _ rfl rfl HK.out (.lit (.int .i64 1)) [] (plainElem_int Try.underlying3 (by decide)) ?_; intro w2 hown2 hg2; have e0 := HBX.out w2 hg2; have ER := hide (HRES.out w2 hg2); have HB2 := hide (HBEL.out w2 hg2); have HO := hide hown2; clear hg2 hown2) | (at_lookup; refine wpList_lookup_own_int _ rfl _ _ 75 rfl 3 3 .i64 law3 Try.underlying75 Try.underlying3 (zero3 _) w1.heap.size (k + 1) (D.put (kb x1) (.lit (.int .i64 1))) rfl HO.out _ _ rfl HK.out ?_; intro c2 hat hwc; obtain rfl : c2 = 1 := (Lit.int.inj (DataW.lit.inj (hat.symm.trans (atKey_put_same HM.out.isMap (by trivial) _ _)))).2; clear hat hwc))
            go_roundw
            case rel =>
              have htf := take_fst HX.out
              refine ⟨k + 1, by omega, by go_num, ⟨_, HO.out, by rw [htf]; exact HDD.out.push HM.out.isMap⟩, ?_, ER.out, HB2.out, HRR.out.lt⟩
              rw [htf, List.nodup_append]
              exact ⟨HRR.out.nd, by simp, fun a ha b hb => by simp at hb; subst hb; intro e; subst e; exact HI.out ha⟩
            case measure => simp [intOf]; omega
        · have : k = l.length := by omega
          subst this
          have hnd : dupB l = false := by
            have := hr.nd
            rw [List.take_of_length_le (Nat.le_refl _)] at this
            simp [dupB, this]
          have HSEL := hide (HSE.out.trans (if_neg (by rw [hnd]; simp)))
          have HCM := hide (come_any floor A c l wr ((h.below hr.bel).more hr.bel.size) hl)
          have hres := hr.res
          have hbel := hide hr.bel
          have hlt2 := lt_of_block hr.res
          have q1 := fun i => cell_of_row wr w.heap.size i _ 27 (0, 0) hres
          have q2 : ∀ i, wr.frozen? ⟨w.heap.size, i, none⟩ = false := fun i => by simp [World.frozen?, hres]
          generalize hcg : comeI floor l = s4 at *
          obtain ⟨y1, y2, y3, y4⟩ := s4
          simp only [soldV] at HCM
          clear hnd hr hres hcg
          go_wp2_with (go_at_call 28; refine (HCM.out).mono ?_; rintro e w3 ⟨rfl, hb3⟩; have q3 := fun o => (bcell hb3).1 w.heap.size o hlt2; have q4 := fun o => (bcell hb3).2 w.heap.size o hlt2; have HB3 := hide hb3; clear hb3)
          refine bodyPost_ret (v := pairV ((y1, y2, y3, y4), 0)) (by simp [results, Try.results7, go_sem, pairV, soldV, q1, q3]) rfl ?_
          refine ⟨by rw [HSEL.out], ?_⟩
          repeat (refine Below.setCell ?_ (by exact Nat.le_refl _) _)
          exact hbel.out.trans (HB3.out.mono hbel.out.size)
end Go.Proofs.Ytnidmoljhopcoaa
