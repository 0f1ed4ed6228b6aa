/- The walk of (*clear.board).w: a part that is not known yet. -/
import Derived.Test.YtkjmpenaifhfjaaClearW
namespace Go.Proofs.Ytkjmpenaifhfjaa
open Go.RowKit Go.Maps
open Go.ChangeMaps Go.WideMaps

theorem lessG_top (a b n : Nat) (ha : a < 2 ^ n) : lessG a b < 2 ^ n := Nat.lt_of_le_of_lt Nat.and_le_left ha
theorem pow_small (n : Int) (h : n ≤ 10) : 2 ^ n.toNat ≤ 1024 := by
  have := Nat.pow_le_pow_right (n := 2) (by omega) (show n.toNat ≤ 10 by omega)
  exact this

theorem grown_drew_ {w w' : World} {row : Option Nat} (h : w.grownBy w' row) : w.grownBy w'.drew row := ⟨h.os, h.tape, h.output, h.size, h.block⟩
def WAll (B p m : Nat) (n : Int) (A : Option Addr) (c : Nat) (hs : List Hdr) (ls : List (List Offer)) (k : Nat) : Prop :=
  ∀ (f : Nat) (w : World), f < 2 ^ n.toNat → Board w B p m n A c hs ls → Calls Try.prog 30 #[.pointer (some ⟨p, 0, none⟩), .int .i64 (k : Int), .int .u32 (f : Int)] w (WPost B p m n A c hs ls (bestW (ls.drop k) f) w)

theorem take_fold {rest : Nat → Int} {f : Nat} {b : Int} {l : List Offer} {t : Nat} {o : Offer} (h : l[t]? = some o) : (l.take (t + 1)).foldl (stepW rest f) b = stepW rest f ((l.take t).foldl (stepW rest f) b) o := by
  rw [List.take_add_one, h, List.foldl_append]
  rfl

set_option maxRecDepth 100000 in
set_option maxHeartbeats 4000000 in
theorem w_miss (B p m : Nat) (n : Int) (A : Option Addr) (c : Nat) (hs : List Hdr) (ls : List (List Offer)) (hl : ls.length ≤ 32) (hn : n ≤ 10) (hg : GoodB ls) (hll : ∀ l ∈ ls, l.length ≤ 1000000) (k : Nat) (hk : k < ls.length) (ih : WAll B p m n A c hs ls (k + 1))
    (f : Nat) (w : World) (hf : f < 2 ^ n.toNat) (hf0 : f ≠ 0) (hb : Board w B p m n A c hs ls)
    (hlk : ∀ ob d, (Instr.lookup 89 (.map (some m)) (.agg #[.int .i64 (k : Int), .int .u32 (f : Int)]) true).run Try.prog ((w.alloc ob).drewN d) = .ok (.tuple #[.int .i64 0, .bool false]) ((w.alloc ob).drewN d)) :
    Calls Try.prog 30 #[.pointer (some ⟨p, 0, none⟩), .int .i64 (k : Int), .int .u32 (f : Int)] w (WPost B p m n A c hs ls (bestW (ls.drop k) f) w) := by
  obtain ⟨c0, c1, c2⟩ := hb.cells
  have hpw := hb.lt.1
  have d2 : ∀ ob, (w.alloc ob).cell? ⟨p, 2, none⟩ = some (.map (some m)) := fun ob => (World.cell?_alloc_lt w ob ⟨p, 2, none⟩ hpw).trans c2
  have hp2 := pow_small n hn
  have hf32 : f < 4294967296 := by omega
  obtain ⟨bb, bo, hA, hbB, hat⟩ := hb.buys.at_ (by omega)
  obtain ⟨⟨a1, a2⟩, l, ha, hlx, _, _⟩ := hb.buys.get hk
  have hcell := hat k _ l ha hlx
  simp only at hcell
  subst hA
  have HL := hide (bestW_step ls k l hlx f)
  have HKR : Hid (bestW (ls.drop k) f = bestW (ls.drop k) f) := hide rfl
  have hgl := hg l (List.mem_of_getElem? hlx)
  have hlen := hll l (List.mem_of_getElem? hlx)
  have HROW : Hid (∀ W, Board W B p m n (some ⟨bb, bo, none⟩) c hs ls → Offs W B a1 l) := hide (fun W hW => (hW.buys.row k _ l ha hlx).1)
  have HCELL : Hid (∀ W, Board W B p m n (some ⟨bb, bo, none⟩) c hs ls → W.cell? ⟨bb, bo + k, none⟩ = some (.slice a1 l.length a2)) := hide (fun W hW => by
    obtain ⟨b', o', e, _, h'⟩ := hW.buys.at_ (by omega)
    injection e with e
    injection e with e1 e2 e3
    subst e1 e2
    exact h' k _ l ha hlx)
  have HIH := hide ih
  have HG := hide hgl
  have HBD : Hid (∀ g, 0 ≤ bestW (ls.drop (k + 1)) g ∧ bestW (ls.drop (k + 1)) g ≤ 31 * 1099511627776) := hide (fun g => by
    have := bestW_bd _ (hg.drop (k + 1)) g
    simp only [List.length_drop] at this
    omega)
  have HB := hide hb
  have hkl : (k : Int) < (ls.length : Int) := by omega
  have h1 : ((k : Int) == (ls.length : Int)) = false := by simp; omega
  have h2 : ((f : Int) == 0) = false := by simp; omega
  clear hb ih hgl hg hll hat ha hlx hf0 hcell
  unfold WAll at HIH
  generalize hrest : bestW (ls.drop (k + 1)) = rest at *
  clear hrest
  generalize hres0 : bestW (ls.drop k) f = res at HL ⊢
  clear HKR
  have HKR := hide hres0
  clear hres0
  go_enter Try.func30, Try.ntmps30
  go_wp2_with fail
  go_step3
  go_wp2_with fail
  go_quiet (fail)
  go_wp2_with fail
  refine (HIH.out f _ hf (HB.out.grown (grown_drewN (grown_alloc _ _ _) _))).mono ?_
  rintro e w2 ⟨rfl, hb2, hg2⟩
  have hq2 : w2.heap[w.heap.size]? = some (.cells #[.int .i64 (k : Int), .int .u32 (f : Int)] 93 (0, 0)) :=
    (hg2.block _ (by simp) (by have := HB.out.lt.2; simp; omega)).trans (heap_alloc_new w _)
  have HG2 : Hid (w.grownBy w2 (some m)) := hide ((grown_drewN (grown_alloc w _ (some m)) nq).trans hg2)
  have hc2 := HCELL.out w2 hb2
  obtain ⟨e0, e1, e2⟩ := hb2.cells
  have HB2 := hide hb2
  have HQ2 := hide hq2
  clear hb2 hg2 hq2
  go_wp2_with fail
  have HBA : Hid (0 ≤ rest f ∧ rest f ≤ 31 * 1099511627776) := hide (HBD.out f)
  go_step3
  go_wp2_with fail
  clear e0 e1 e2 hc2 c0 c1 c2 d2 hlk h1 h2
  go_loopw [10, 53] (fun b i wr => ∃ t : Nat, t ≤ l.length ∧ i = .int .i64 t ∧ b = .int .i64 ((l.take t).foldl (stepW rest f) (rest f)) ∧ Board wr B p m n (some ⟨bb, bo, none⟩) c hs ls ∧ w2.grownBy wr (some m)) (fun _ i _ => l.length - (intOf i).toNat)
  case atStart => exact ⟨0, Nat.zero_le _, rfl, rfl, HB2.out, World.grownBy.refl _ _⟩
  case round =>
    obtain ⟨t, ht, rfl, rfl, hbr, hgr⟩ := hrel
    by_cases hlt : t < l.length
    · obtain ⟨ob, oo, hA1, hobB, hoc⟩ := (HROW.out wr hbr).at_ (by omega)
      obtain ⟨x, hx⟩ : ∃ x, l[t]? = some x := ⟨l[t], List.getElem?_eq_getElem hlt⟩
      obtain ⟨q0, q1⟩ := hoc t x hx
      have hgx := HG.out x (List.mem_of_getElem? hx)
      have HT := hide (take_fold (rest := rest) (f := f) (b := rest f) hx)
      obtain ⟨g, co⟩ := x
      obtain ⟨_, hg32, hco1, hco2⟩ := hgx
      simp only at q0 q1 hg32 hco1 hco2
      subst hA1
      have hx1 := andNot_lessG g f hg32 hf32
      have hx2 := andNot_lessG f g hf32 hg32
      have HBR := hide hbr
      have HGR := hide hgr
      clear hbr hgr hoc hx
      by_cases hwi : withinB g f = true
      · have ht1 : ((lessG g f : Int) != 0) = false := by
          have : lessG g f = 0 := by simpa [withinB] using hwi
          simp [this]
        have HWI := hide hwi
        clear hwi
        have hv := HBD.out (lessG f g)
        have HIA := hide (HIH.out (lessG f g) (wr.alloc (.cells #[.int .u32 (g : Int), .int .i64 co] 51)).drew (lessG_top f g _ hf) (HBR.out.grown (grown_drew_ (grown_alloc _ _ _))))
        have HV : Hid ((l.take (t + 1)).foldl (stepW rest f) (rest f) = max ((l.take t).foldl (stepW rest f) (rest f)) (co + rest (lessG f g))) := hide (by rw [HT.out]; unfold stepW; rw [if_pos HWI.out])
        generalize (l.take t).foldl (stepW rest f) (rest f) = bt at *
        generalize rest (lessG f g) = v at *
        have hw1 : IntKind.i64.wrap ((k : Int) + 1) = (k : Int) + 1 := Go.IntWalk.i64_in _ (by omega)
        have hw2 : IntKind.i64.wrap (co + v) = co + v := Go.IntWalk.i64_in _ (by omega)
        go_wp2_with fail
        go_region_held3 (fun w' => w'.cell? ⟨wr.heap.size, 0, none⟩ = some (.int .u32 (g : Int)) ∧ w'.cell? ⟨wr.heap.size, 1, none⟩ = some (.int .i64 co)) (first | exact ⟨r0, r1⟩ | go_keep)
          (first | (go_at_call 30; refine (HIA.out).mono ?_; rintro e w3 ⟨rfl, hb3, hg3⟩; have r0 : w3.cell? ⟨wr.heap.size, 0, none⟩ = some (.int .u32 (g : Int)) := (World.cell?_of_block (hg3.block wr.heap.size (by simp) (by have := HBR.out.lt.2; simp; omega))).trans (World.cell?_alloc_mark wr _ _ (0, 0) 0); have r1 : w3.cell? ⟨wr.heap.size, 1, none⟩ = some (.int .i64 co) := (World.cell?_of_block (hg3.block wr.heap.size (by simp) (by have := HBR.out.lt.2; simp; omega))).trans (World.cell?_alloc_mark wr _ _ (0, 0) 1); have HB3 := hide hb3; have HG3 := hide hg3; clear hb3 hg3))
        go_wp2_with fail
        go_roundw
        case rel =>
          refine ⟨t + 1, by omega, by go_num, by rw [HV.out]; split <;> exact int_eq (by omega), by first | exact HB3.out | exact HB3.out.grown (grown_drewN (World.grownBy.refl _ _) _), by first | exact HGR.out.trans ((grown_drew_ (grown_alloc _ _ _)).trans HG3.out) | exact HGR.out.trans (grown_drewN ((grown_drew_ (grown_alloc _ _ _)).trans HG3.out) _)⟩
        case measure => simp [intOf]; omega
      · have ht1 : ((lessG g f : Int) != 0) = true := by
          have : lessG g f ≠ 0 := by simpa [withinB] using hwi
          simpa using this
        have HWI := hide hwi
        clear hwi
        go_wp2_with fail
        go_roundw
        case rel =>
          refine ⟨t + 1, by omega, by go_num, ?_, HBR.out.grown (grown_alloc _ _ _), HGR.out.trans (grown_alloc _ _ _)⟩
          rw [HT.out]
          unfold stepW
          rw [if_neg HWI.out]
        case measure => simp [intOf]; omega
    · obtain rfl : t = l.length := by omega
      obtain ⟨e0, e1, e2⟩ := hbr.cells
      have hqr := (hgr.block w.heap.size (lt_of_block HQ2.out) (by have := HB.out.lt.2; simp; omega)).trans HQ2.out
      have f0 := cell_of_row wr w.heap.size 0 _ _ (0, 0) hqr
      have f1 := cell_of_row wr w.heap.size 1 _ _ (0, 0) hqr
      simp at f0 f1
      have HR : Hid (res = l.foldl (stepW rest f) (rest f)) := hide (by rw [HL.out])
      rw [List.take_of_length_le (Nat.le_refl _)]
      rw [← HR.out]
      obtain ⟨D, hown, hD⟩ := hbr.map
      have hown' : wr.drew.ownsMap Try.prog 93 (plainElem Try.prog 2) m (ls.length * 2 ^ n.toNat) D := hown.drew
      have HO := hide hown'
      have HD := hide hD
      have hkey := hide (keyP k f (by omega) hf32)
      have hres : 0 ≤ res ∧ res ≤ 32 * 1099511627776 := by
        rw [HR.out]
        have := foldW_bd (f := f) (M := 31 * 1099511627776) HBD.out l (rest f) HG.out (by have := HBA.out; omega)
        omega
      have hwf : (Lit.int .i64 res).wf = true := WalkArith.wf_i64 (by omega)
      have HW := hide hwf
      have HBR := hide hbr
      have HGR := hide hgr
      have hcnt : ls.length * 2 ^ n.toNat < maxLen := by
        have : ls.length * 2 ^ n.toNat ≤ 32 * 1024 := Nat.mul_le_mul hl hp2
        unfold maxLen
        omega
      have HCN := hide hcnt
      clear hown hown' hD hwf hbr hgr hqr hcnt
      go_wp2_with fail
      go_still_tail 6, (by kernel_rfl)
      change wpList _ _ _ _ _ wr.drew
      have HBD' : Hid (Board wr.drew B p m n (some ⟨bb, bo, none⟩) c hs ls) := hide (HBR.out.grown (grown_drew_ (World.grownBy.refl _ _)))
      have HGD : Hid (w.grownBy wr.drew (some m)) := hide (grown_drew_ (HG2.out.trans HGR.out))
      generalize wr.drew = w5 at *
      go_wp2_with (at_mapUpdate; refine wpList_mapUpdate_own _ rfl _ _ _ 89 rfl 93 2 lawP Try.underlying89 _ m _ D rfl HO.out HCN.out _ _ _ rfl rfl hkey.out (.lit (.int .i64 res)) [] (plainElem_int Try.underlying2 HW.out) ?_; intro w6 hown6 hg6; have HO6 := hide hown6; have HG6 := hide hg6; clear hown6 hg6)
      rw [Exit.noGoto_ret]
      go_ret
      refine ⟨rfl, HBD'.out.turned HG6.out HO6.out ?_, HGD.out.trans HG6.out⟩
      have := HD.out.put (k := k) (f := f) hk hf (by omega) (by omega)
      rw [HKR.out] at this
      exact this

theorem w_all (B p m : Nat) (n : Int) (A : Option Addr) (c : Nat) (hs : List Hdr) (ls : List (List Offer)) (hl : ls.length ≤ 32) (hn : n ≤ 10) (hg : GoodB ls) (hll : ∀ l ∈ ls, l.length ≤ 1000000) : ∀ j k, k + j = ls.length → WAll B p m n A c hs ls k
  | 0, k, h => by
    intro f w hf hb
    obtain rfl : k = ls.length := by omega
    rw [List.drop_length]
    exact w_end B p m n A c hs ls hl f w hb
  | j + 1, k, h => by
    have ih := w_all B p m n A c hs ls hl hn hg hll j (k + 1) (by omega)
    intro f w hf hb
    have hp2 := pow_small n hn
    by_cases hf0 : f = 0
    · subst hf0
      rw [bestW_zero _ (hg.drop k)]
      exact w_zero B p m n A c hs ls hl k (by omega) w hb
    · obtain ⟨D, hown, hD⟩ := hb.map
      have hoa : ∀ ob, (w.alloc ob).ownsMap Try.prog 93 (plainElem Try.prog 2) m (ls.length * 2 ^ n.toNat) D := fun ob => hown.alloc ob
      by_cases hh : has D (placeKey k f) = true
      · refine w_hit B p m n A c hs ls hl k f (by omega) (by omega) hf0 w hb (fun ob d => ?_)
        rcases lookP (hoa ob) hD k f (by omega) (by omega) with h1 | h1
        · exact h1.2 d
        · rw [h1.1] at hh; cases hh
      · refine w_miss B p m n A c hs ls hl hn hg hll k (by omega) ih f w hf hf0 hb (fun ob d => ?_)
        rcases lookP (hoa ob) hD k f (by omega) (by omega) with h1 | h1
        · exact absurd h1.1 hh
        · exact h1.2 d
theorem w_any (B p m : Nat) (n : Int) (A : Option Addr) (c : Nat) (hs : List Hdr) (ls : List (List Offer)) (hl : ls.length ≤ 32) (hn : n ≤ 10) (hg : GoodB ls) (hll : ∀ l ∈ ls, l.length ≤ 1000000) (k : Nat) (hk : k ≤ ls.length) : WAll B p m n A c hs ls k :=
  w_all B p m n A c hs ls hl hn hg hll (ls.length - k) k (by omega)
end Go.Proofs.Ytkjmpenaifhfjaa
