/- The walk of (*clear.board).first: the best choice of a part. -/
import Derived.Test.YtkjmpenaifhfjaaClearY
namespace Go.Proofs.Ytkjmpenaifhfjaa
open Go.RowKit Go.Maps
open Go.ChangeMaps Go.WideMaps

theorem grown_setCell {w w' : World} {row : Option Nat} (h : w.grownBy w' row) {p : Addr} (hp : w.heap.size ≤ p.block) (u : Value) : w.grownBy (w'.setCell p u) row :=
  ⟨h.os, h.tape, h.output, by simpa [World.setCell] using h.size, fun i hi hne => (Below.heap_setCell w' p u i (by omega)).trans (h.block i hi hne)⟩
theorem Board.grown2 {w w' : World} {B p m : Nat} {n : Int} {A : Option Addr} {c : Nat} {hs : List Hdr} {ls : List (List Offer)} {row : Option Nat} (h : Board w B p m n A c hs ls) (hg : w.grownBy w' row) (hB : ∀ j, row = some j → p ≠ j ∧ m ≠ j ∧ B ≤ j) : Board w' B p m n A c hs ls := by
  have hl := h.lt
  refine ⟨(hg.block p hl.1 (fun e => (hB p e.symm).1 rfl)).trans h.blk, h.buys.keep (fun q hq => ?_), ?_, h.bp, h.bm⟩
  · have := h.bp
    exact World.cell?_of_block (hg.block q.block (by omega) (fun e => by have := (hB _ e.symm).2.2; omega))
  · obtain ⟨D, h1, h2⟩ := h.map
    exact ⟨D, h1.kept hg (fun e => (hB m e.symm).2.1 rfl), h2⟩
theorem grown_set {w : World} {p : Addr} (u : Value) : w.grownBy (w.setCell p u) (some p.block) :=
  ⟨rfl, rfl, rfl, by simp [World.setCell], fun i _ hne => Below.heap_setCell w p u i (fun e => hne (by rw [e]))⟩

/-- What the loop of first has done ahead of buyer i. -/
structure FirstRel (w : World) (B p m : Nat) (n : Int) (A : Option Addr) (c : Nat) (hs : List Hdr) (ls : List (List Offer)) (k f : Nat) (W : Int) (q : Nat) (i : Nat) (v : Value) (wr : World) : Prop where
  board : Board wr B p m n A c hs ls
  grown : w.grownBy wr (some m)
  res : wr.heap[w.heap.size]? = some (.cells #[.slice none 0 0, .int .i64 0] 35 (0, 0))
  loc : wr.heap[q]? = some (.cells #[v, .int .i64 W] 35 (0, 0))
  row : wr.ownsRow w.heap.size 3 1 v i (((List.range i).map (numAt ls k f)).map (Value.int .i64))
  qlt : w.heap.size < q
theorem infoI : EI Try.prog 3 (.int .i64 0) 1 8 := by unfold EI; kernel_rfl
section
variable {w wr w2 : World} {B p m : Nat} {n : Int} {A : Option Addr} {c : Nat} {hs : List Hdr} {ls : List (List Offer)} {k f : Nat} {W : Int} {q i : Nat} {v : Value}
theorem FirstRel.call (h : FirstRel w B p m n A c hs ls k f W q i v wr) (hm : m < w.heap.size) (hb : Board w2 B p m n A c hs ls) (hg : wr.grownBy w2 (some m)) : FirstRel w B p m n A c hs ls k f W q i v w2 := by
  have hq := h.qlt
  refine ⟨hb, h.grown.trans hg, (hg.block _ (lt_of_block h.res) (by simp; omega)).trans h.res, (hg.block _ (lt_of_block h.loc) (by simp; omega)).trans h.loc, h.row.kept hg ?_, hq⟩
  rcases h.row.2 with ⟨rfl, _⟩ | ⟨g, cap, cur, rfl, hg', _⟩
  · exact .inl rfl
  · right
    simp only [Value.ownBlock, ne_eq, Option.some.injEq]
    omega
theorem FirstRel.new (h : FirstRel w B p m n A c hs ls k f W q i v wr) (hm : m < w.heap.size) (o : Obj) : FirstRel w B p m n A c hs ls k f W q i v (wr.alloc o) := h.call hm (h.board.grown (grown_alloc _ _ _)) (grown_alloc _ _ _)
theorem FirstRel.draws (h : FirstRel w B p m n A c hs ls k f W q i v wr) (hm : m < w.heap.size) (d : Nat) : FirstRel w B p m n A c hs ls k f W q i v (wr.drewN d) := h.call hm (h.board.grown (grown_drewN (World.grownBy.refl _ _) d)) (grown_drewN (World.grownBy.refl _ _) d)
/-- One more number is laid behind. -/
theorem FirstRel.push (h : FirstRel w B p m n A c hs ls k f W q i v wr) (hm : m < w.heap.size) (hp : p < w.heap.size) (hBw : B ≤ w.heap.size) {z : Int} {v' : Value} (hown : w2.ownsRow w.heap.size 3 1 v' (i + 1) (((List.range i).map (numAt ls k f)).map (Value.int .i64) ++ [.int .i64 z])) (hg : wr.grownBy w2 v.ownBlock) (hz : numAt ls k f i = z) :
    FirstRel w B p m n A c hs ls k f W q (i + 1) v' (w2.setCell ⟨q, 0, none⟩ v') := by
  have hq := h.qlt
  have hrow : ∀ j, v.ownBlock = some j → w.heap.size ≤ j ∧ j < wr.heap.size := fun j hj => h.row.lt j hj
  have hqv : v.ownBlock ≠ some q := own_ne h.row h.loc (by simp)
  have hrv : v.ownBlock ≠ some w.heap.size := own_ne h.row h.res (by simp)
  have hloc2 := (hg.block q (lt_of_block h.loc) (Ne.symm hqv)).trans h.loc
  have hqv' : v'.ownBlock ≠ some q := own_ne hown hloc2 (by simp)
  have hg2 : w.grownBy w2 (some m) := h.grown.andThen hg (fun j hj => .inl (hrow j hj).1)
  have hbd : Board w2 B p m n A c hs ls := h.board.grown2 hg (fun j hj => by have := hrow j hj; omega)
  refine ⟨hbd.grown2 (grown_set _) (fun j hj => by injection hj with hj; simp at hj; omega), grown_setCell hg2 (by simp; omega) _, ?_, ?_, ?_, hq⟩
  · rw [Below.heap_setCell w2 ⟨q, 0, none⟩ _ _ (by simp; omega)]
    exact (hg.block _ (lt_of_block h.res) (Ne.symm hrv)).trans h.res
  · exact setCell_block hloc2 0 v'
  · have e : ((List.range (i + 1)).map (numAt ls k f)).map (Value.int .i64) = ((List.range i).map (numAt ls k f)).map (Value.int .i64) ++ [.int .i64 z] := by
      rw [List.range_succ, List.map_append, List.map_append]
      simp [hz]
    rw [e]
    exact ownsRow_setCell_other hown hqv' _
end
theorem no_hit {rest : Nat → Int} {left : Int} {f : Nat} {o : Offer} (h : withinB o.1 f = false) : hitB rest left f o = false := by simp [hitB, h]

def FirstPost (ls : List (List Offer)) (k f m : Nat) (w : World) (e : Ending) (w' : World) : Prop :=
  ∃ v, e = .returned (.agg #[v, .int .i64 (bestW (ls.drop k) f)]) ∧ w'.ownsRow w.heap.size 3 1 v ls.length ((choiceK ls k f).map (Value.int .i64)) ∧ w.grownBy w' (some m)

theorem freeAt_top (ls : List (List Offer)) (k f t : Nat) (hf : f < 2 ^ t) : ∀ i, freeAt ls k f i < 2 ^ t
  | 0 => hf
  | i + 1 => by
    have := freeAt_top ls k f t hf i
    unfold freeAt
    split
    · exact this
    · unfold goesG
      split
      · exact this
      · exact lessG_top _ _ _ this

set_option maxRecDepth 100000 in
set_option maxHeartbeats 8000000 in
theorem first_any (B p m : Nat) (n : Int) (A : Option Addr) (c : Nat) (hs : List Hdr) (ls : List (List Offer)) (hI : GoodI n ls) (k : Nat) (hk : k ≤ ls.length) (f : Nat) (w : World) (hf : f < 2 ^ n.toNat) (hb : Board w B p m n A c hs ls) :
    Calls Try.prog 31 #[.pointer (some ⟨p, 0, none⟩), .int .i64 (k : Int), .int .u32 (f : Int)] w (FirstPost ls k f m w) := by
  obtain ⟨hpw, hmw⟩ := hb.lt
  have hp2 := pow_small n hI.hi
  have HW : Hid (∀ (j g : Nat) (W : World), j ≤ ls.length → g < 2 ^ n.toNat → Board W B p m n A c hs ls → Calls Try.prog 30 #[.pointer (some ⟨p, 0, none⟩), .int .i64 (j : Int), .int .u32 (g : Int)] W (WPost B p m n A c hs ls (bestW (ls.drop j) g) W)) :=
    hide (fun j g W hj hg hbd => w_any B p m n A c hs ls hI.few hI.hi hI.good (fun l hl' => by have := hI.short l hl'; omega) j hj g W hg hbd)
  have HB := hide hb
  have HIN := hide hI
  have hll : (ls.length : Int) ≤ 32 := by have := hI.few; omega
  have HFT := hide (freeAt_top ls k f n.toNat hf)
  have HBW : Hid (B ≤ w.heap.size) := hide (by have := hb.bp; omega)
  clear hb hI
  have HWW : Hid (bestW (ls.drop k) f = bestW (ls.drop k) f) := hide rfl
  go_enter Try.func31, Try.ntmps31
  go_wp2_with fail
  refine (HW.out k f _ hk hf (HB.out.grown (grown_alloc _ _ _))).mono ?_
  rintro e w1 ⟨rfl, hb1, hg1⟩
  obtain ⟨WV, hWV⟩ : ∃ WV, WV = bestW (ls.drop k) f := ⟨_, rfl⟩
  rw [← hWV]
  have HWV := hide hWV
  clear hWV HWW
  have hz1 : w.heap.size < w1.heap.size := by have := hg1.size; simp at this; omega
  have hr1 : w1.heap[w.heap.size]? = some (.cells #[.slice none 0 0, .int .i64 0] 35 (0, 0)) := (hg1.block _ (by simp) (by simp; omega)).trans (heap_alloc_new w _)
  obtain ⟨e0, e1, e2⟩ := hb1.cells
  have hp1 := hb1.lt.1
  have e1' := fun ob => (World.cell?_alloc_lt w1 ob ⟨p, 1, none⟩ hp1).trans e1
  have HREL : Hid (FirstRel w B p m n A c hs ls k f WV w1.heap.size 0 (.slice none 0 0) (w1.alloc (.cells #[.slice none 0 0, .int .i64 WV] 35))) :=
    hide ⟨hb1.grown (grown_alloc _ _ _), ((grown_alloc w _ (some m)).trans hg1).trans (grown_alloc _ _ _), (Below.heap_alloc _ _ _ hz1).trans hr1, heap_alloc_new w1 _, World.ownsRow_nil _ _ _ _, hz1⟩
  clear hb1 hg1 hr1 e0 e1 e2
  go_wp2_with fail
  clear e1'
  go_loopw [2, 24] (fun fv iv wr => ∃ (i : Nat) (v : Value), i ≤ ls.length ∧ iv = .int .i64 i ∧ fv = .int .u32 (freeAt ls k f i : Int) ∧ FirstRel w B p m n A c hs ls k f WV w1.heap.size i v wr) (fun _ iv _ => ls.length - (intOf iv).toNat)
  case atStart => exact ⟨0, _, Nat.zero_le _, rfl, rfl, HREL.out⟩
  case round =>
    rename World => wo
    obtain ⟨i, v, hi, rfl, rfl, hr⟩ := hrel
    have HR := hide hr
    clear hr
    obtain ⟨A', cp, rfl, hcp⟩ := own_sh HR.out.row
    by_cases hlt : i < ls.length
    · have G1 : Hid (∀ z : Int, ∀ u ∈ [Value.int .i64 z], u.oneCell' = true) := hide (fun z u hu => by simp at hu; subst hu; rfl)
      have G2 : Hid (i + 1 ≤ maxLen) := hide (by unfold maxLen; omega)
      have G3 : Hid ((i + 1) * 8 ≤ 140737488355328) := hide (by omega)
      by_cases hki : i < k
      · have hc0 := cell_of_row wo w1.heap.size 0 _ _ (0, 0) HR.out.loc
        simp at hc0
        have HNUM : Hid (numAt ls k f i = -1) := hide (by unfold numAt; rw [if_pos hki])
        have HFR : Hid (freeAt ls k f (i + 1) = freeAt ls k f i) := hide (by rw [freeAt, if_pos hki])
        have HOWN := hide HR.out.row
        have G4 : Hid (w.heap.size ≤ wo.heap.size) := hide HR.out.grown.size
        generalize freeAt ls k f i = F at *
        have hki' : (i : Int) < (k : Int) := by omega
        go_wp2_with (at_builtin; refine wpList_app rfl (.tmp 75) (.tmp 77) 33 rfl w.heap.size (.int .i64 0) 1 8 infoI Try.underlying33 rfl (by decide) _ _ _ rfl HOWN.out 1 1 rfl rfl (G1.out _) G2.out G3.out G4.out ?_; intro v' w2 hown hg _ _; have hl2 := (hg.block w1.heap.size (lt_of_block HR.out.loc) (Ne.symm (own_ne HR.out.row HR.out.loc (by simp)))).trans HR.out.loc; have d0 := cell_of_row w2 w1.heap.size 0 _ _ (0, 0) hl2; simp at d0; have d1 : w2.frozen? ⟨w1.heap.size, 0, none⟩ = false := (by simp [World.frozen?, hl2]); obtain ⟨A2, cp2, hv2, _⟩ := own_sh hown; subst hv2; have HO := hide hown; have HG := hide hg; clear hown hg hl2)
        go_roundw
        case rel => exact ⟨i + 1, _, by omega, by go_num, by rw [HFR.out], HR.out.push hmw hpw HBW.out HO.out HG.out HNUM.out⟩
        case measure => simp [intOf]; omega
      · have hki' : (k : Int) ≤ (i : Int) := by omega
        obtain ⟨⟨a1, a2⟩, l, ha, hlx, hro, _⟩ := HR.out.board.buys.get hlt
        have HGL := hide (HIN.out.good l (List.mem_of_getElem? hlx))
        have hlen : (l.length : Int) ≤ 8 := by have := HIN.out.short l (List.mem_of_getElem? hlx); omega
        have HROW : Hid (∀ W, Board W B p m n A c hs ls → Offs W B a1 l) := hide (fun W hW => (hW.buys.row i _ l ha hlx).1)
        obtain ⟨bb, bo, hA, hbB, hat⟩ := HR.out.board.buys.at_ (by omega)
        have HCELL : Hid (∀ W, Board W B p m n A c hs ls → W.cell? ⟨bb, bo + i, none⟩ = some (.slice a1 l.length a2)) := hide (fun W hW => by
          obtain ⟨b', o', e, _, h'⟩ := hW.buys.at_ (by omega)
          rw [hA] at e
          injection e with e
          injection e with e1 e2 e3
          subst e1 e2
          exact h' i _ l ha hlx)
        subst hA
        have hFt := HFT.out i
        have HNUM0 : Hid (numAt ls k f i = pick l (ls.drop (i + 1)) (freeAt ls k f i)) := hide (by unfold numAt; rw [if_neg hki, hlx]; rfl)
        have HFR0 : Hid (freeAt ls k f (i + 1) = goesG l (numAt ls k f i) (freeAt ls k f i)) := hide (by
          rw [HNUM0.out, freeAt, if_neg hki, hlx]
          rfl)
        have HPK : Hid (pick l (ls.drop (i + 1)) (freeAt ls k f i) = idxTo (hitB (bestW (ls.drop (i + 1))) (bestW (ls.drop i) (freeAt ls k f i)) (freeAt ls k f i)) l) := hide (by
          unfold pick
          have : bestW (l :: ls.drop (i + 1)) = bestW (ls.drop i) := by
            obtain ⟨h5, rfl⟩ := List.getElem?_eq_some_iff.1 hlx
            rw [List.drop_eq_getElem_cons h5]
          rw [this])
        have HBD : Hid (∀ g, 0 ≤ bestW (ls.drop (i + 1)) g ∧ bestW (ls.drop (i + 1)) g ≤ 32 * 1099511627776) := hide (fun g => by
          have := bestW_bd _ (HIN.out.good.drop (i + 1)) g
          simp only [List.length_drop] at this
          omega)
        have HWI := hide (HW.out i (freeAt ls k f i) wo (by omega) hFt HR.out.board)
        have HWN := hide (fun g W hg hbd => HW.out (i + 1) g W (by omega) hg hbd)
        have hF32 : freeAt ls k f i < 4294967296 := by omega
        generalize freeAt ls k f i = F at *
        generalize bestW (ls.drop (i + 1)) = rest at *
        generalize bestW (ls.drop i) F = left at *
        obtain ⟨e0, e1, e2⟩ := HR.out.board.cells
        clear hat ha hlx hro hki
        go_wp2_with fail
        refine (HWI.out).mono ?_
        rintro e w2 ⟨rfl, hb2, hg2⟩
        have HR2 := hide (HR.out.call hmw hb2 hg2)
        have hc2 := HCELL.out w2 hb2
        obtain ⟨f0, f1, f2⟩ := hb2.cells
        clear hb2 hg2 e0 e1 e2
        go_wp2_with fail
        clear f0 f1 f2 hc2
        go_loopw [2, 9, 43] (fun fv nv jv wr => ∃ t : Nat, t ≤ l.length ∧ jv = .int .i64 t ∧ nv = .int .i64 (-1) ∧ fv = .int .u32 (F : Int) ∧ (∀ j y, j < t → l[j]? = some y → hitB rest left F y = false) ∧ FirstRel w B p m n (some ⟨bb, bo, none⟩) c hs ls k f WV w1.heap.size i (.slice A' i cp) wr) (fun _ _ jv _ => l.length - (intOf jv).toNat)
        case atStart => exact ⟨0, Nat.zero_le _, rfl, rfl, rfl, fun j y hj => absurd hj (by omega), HR2.out⟩
        case round =>
          obtain ⟨t, ht, rfl, rfl, rfl, hno, hrr⟩ := hrel
          have HNO := hide hno
          have HRW0 := hide hrr
          clear hno hrr
          by_cases htl : t < l.length
          · obtain ⟨ob, oo, hA1, hobB, hoc⟩ := (HROW.out wr HRW0.out.board).at_ (by omega)
            obtain ⟨x, hx⟩ : ∃ x, l[t]? = some x := ⟨l[t], List.getElem?_eq_getElem htl⟩
            obtain ⟨q0, q1⟩ := hoc t x hx
            have hgx := HGL.out x (List.mem_of_getElem? hx)
            have HX := hide hx
            obtain ⟨g, co⟩ := x
            obtain ⟨_, hg32, hco1, hco2⟩ := hgx
            simp only at q0 q1 hg32 hco1 hco2
            subst hA1
            have hx1 := andNot_lessG g F hg32 hF32
            have hx2 := andNot_lessG F g hF32 hg32
            clear hoc hx
            by_cases hwi : withinB g F = true
            · have ht1 : ((lessG g F : Int) == 0) = true := by
                have : lessG g F = 0 := by simpa [withinB] using hwi
                simp [this]
              have hv := HBD.out (lessG F g)
              have hlg : lessG F g < 2 ^ n.toNat := lessG_top _ _ _ hFt
              have HRA := hide (HRW0.out.new hmw (.cells #[.int .u32 (g : Int), .int .i64 co] 51))
              have HIA := hide (HWN.out (lessG F g) (wr.alloc (.cells #[.int .u32 (g : Int), .int .i64 co] 51)).drew hlg (HRA.out.board.grown (grown_drew_ (World.grownBy.refl _ _))))
              have HHIT : Hid (hitB rest left F (g, co) = (co + rest (lessG F g) == left)) := hide (by simp [hitB, hwi])
              have HGO : Hid (goesG l (t : Int) F = lessG F g) := hide (by unfold goesG; rw [if_neg (by omega), Int.toNat_natCast, HX.out]; rfl)
              clear hwi
              generalize rest (lessG F g) = v at *
              have hw1 : IntKind.i64.wrap ((i : Int) + 1) = (i : Int) + 1 := Go.IntWalk.i64_in _ (by omega)
              have hw2 : IntKind.i64.wrap (co + v) = co + v := Go.IntWalk.i64_in _ (by omega)
              have hmr : m < wr.heap.size := by have := HRW0.out.grown.size; omega
              go_wp2_with fail
              go_region_held3 (fun w' => w'.cell? ⟨wr.heap.size, 0, none⟩ = some (.int .u32 (g : Int)) ∧ w'.cell? ⟨wr.heap.size, 1, none⟩ = some (.int .i64 co)) (first | exact ⟨r0, r1⟩ | go_keep)
                (first | (go_at_call 30; refine (HIA.out).mono ?_; rintro e w3 ⟨rfl, hb3, hg3⟩; have r0 : w3.cell? ⟨wr.heap.size, 0, none⟩ = some (.int .u32 (g : Int)) := (World.cell?_of_block (hg3.block wr.heap.size (by simp) (by simp; omega))).trans (World.cell?_alloc_mark wr _ _ (0, 0) 0); have r1 : w3.cell? ⟨wr.heap.size, 1, none⟩ = some (.int .i64 co) := (World.cell?_of_block (hg3.block wr.heap.size (by simp) (by simp; omega))).trans (World.cell?_alloc_mark wr _ _ (0, 0) 1); have HR3 : Hid (FirstRel w B p m n (some ⟨bb, bo, none⟩) c hs ls k f WV w1.heap.size i (.slice A' i cp) w3) := hide ((HRA.out.draws hmw 1).call hmw hb3 hg3); clear hb3 hg3))
              by_cases hhit : co + v = left
              · have hh : (co + v == left) = true := by simp [hhit]
                have HPT : Hid (numAt ls k f i = (t : Int)) := hide (by rw [HNUM0.out, HPK.out]; exact idxTo_hit HX.out (by rw [HHIT.out]; exact hh) HNO.out)
                have HFR : Hid (freeAt ls k f (i + 1) = lessG F g) := hide (by rw [HFR0.out, HPT.out, HGO.out])
                have HRW := HR3
                have HOWN := hide HRW.out.row
                have G4 : Hid (w.heap.size ≤ w3.heap.size) := hide HRW.out.grown.size
                have hc0 := cell_of_row w3 w1.heap.size 0 _ _ (0, 0) HRW.out.loc
                simp at hc0
                clear hhit
                go_wp2_with (at_builtin; refine wpList_app rfl (.tmp 75) (.tmp 77) 33 rfl w.heap.size (.int .i64 0) 1 8 infoI Try.underlying33 rfl (by decide) _ _ _ rfl HOWN.out 1 1 rfl rfl (G1.out _) G2.out G3.out G4.out ?_; intro v' w2 hown hg _ _; have hl2 := (hg.block w1.heap.size (lt_of_block HRW.out.loc) (Ne.symm (own_ne HRW.out.row HRW.out.loc (by simp)))).trans HRW.out.loc; have d0 := cell_of_row w2 w1.heap.size 0 _ _ (0, 0) hl2; simp at d0; have d1 : w2.frozen? ⟨w1.heap.size, 0, none⟩ = false := (by simp [World.frozen?, hl2]); obtain ⟨A2, cp2, hv2, _⟩ := own_sh hown; subst hv2; have HO := hide hown; have HG := hide hg; clear hown hg hl2)
                refine ⟨⟨i + 1, _, by omega, by go_num, by rw [HFR.out], HRW.out.push hmw hpw HBW.out HO.out HG.out HPT.out⟩, by simp [intOf]; omega⟩
              · have hh : (co + v == left) = false := by simpa using hhit
                have HMS : Hid (hitB rest left F (g, co) = false) := hide (by rw [HHIT.out]; exact hh)
                clear hhit
                go_wp2_with fail
                go_roundw
                case rel => exact ⟨t + 1, by omega, by go_num, rfl, rfl, no_next HNO.out HX.out HMS.out, HR3.out⟩
                case measure => simp [intOf]; omega
            · have hwi' : withinB g F = false := by simpa using hwi
              have ht1 : ((lessG g F : Int) == 0) = false := by
                have : lessG g F ≠ 0 := by simpa [withinB] using hwi
                simpa using this
              have HMS : Hid (hitB rest left F (g, co) = false) := hide (no_hit hwi')
              clear hwi hwi'
              go_wp2_with fail
              go_quiet (fail)
              go_wp2_with fail
              go_roundw
              case rel => exact ⟨t + 1, by omega, by go_num, rfl, rfl, no_next HNO.out HX.out HMS.out, (HRW0.out.new hmw _).draws hmw _⟩
              case measure => simp [intOf]; omega
          · obtain rfl : t = l.length := by omega
            have HPT : Hid (numAt ls k f i = -1) := hide (by rw [HNUM0.out, HPK.out]; exact idxTo_miss HNO.out)
            have HFR : Hid (freeAt ls k f (i + 1) = F) := hide (by rw [HFR0.out, HPT.out]; rfl)
            have HRW := HRW0
            have HOWN := hide HRW.out.row
            have G4 : Hid (w.heap.size ≤ wr.heap.size) := hide HRW.out.grown.size
            have hc0 := cell_of_row wr w1.heap.size 0 _ _ (0, 0) HRW.out.loc
            simp at hc0
            go_wp2_with (at_builtin; refine wpList_app rfl (.tmp 75) (.tmp 77) 33 rfl w.heap.size (.int .i64 0) 1 8 infoI Try.underlying33 rfl (by decide) _ _ _ rfl HOWN.out 1 1 rfl rfl (G1.out _) G2.out G3.out G4.out ?_; intro v' w2 hown hg _ _; have hl2 := (hg.block w1.heap.size (lt_of_block HRW.out.loc) (Ne.symm (own_ne HRW.out.row HRW.out.loc (by simp)))).trans HRW.out.loc; have d0 := cell_of_row w2 w1.heap.size 0 _ _ (0, 0) hl2; simp at d0; have d1 : w2.frozen? ⟨w1.heap.size, 0, none⟩ = false := (by simp [World.frozen?, hl2]); obtain ⟨A2, cp2, hv2, _⟩ := own_sh hown; subst hv2; have HO := hide hown; have HG := hide hg; clear hown hg hl2)
            refine ⟨⟨i + 1, _, by omega, by go_num, by rw [HFR.out], HRW.out.push hmw hpw HBW.out HO.out HG.out HPT.out⟩, by simp [intOf]; omega⟩
    · obtain rfl : i = ls.length := by omega
      have c0 := cell_of_row wo w1.heap.size 0 _ _ (0, 0) HR.out.loc
      have c1 := cell_of_row wo w1.heap.size 1 _ _ (0, 0) HR.out.loc
      have c2 := cell_of_row wo w.heap.size 0 _ _ (0, 0) HR.out.res
      have c3 := cell_of_row wo w.heap.size 1 _ _ (0, 0) HR.out.res
      simp at c0 c1 c2 c3
      have g0 : ∀ i, wo.frozen? ⟨w.heap.size, i, none⟩ = false := fun i => by simp [World.frozen?, HR.out.res]
      go_wp2_with fail
      refine bodyPost_ret (v := .agg #[.slice A' ls.length cp, .int .i64 WV]) (by simp [results, Try.results31, go_sem, c2, c3]) rfl ?_
      refine ⟨_, by rw [HWV.out], ?_, grown_setCell (grown_setCell HR.out.grown (Nat.le_refl _) _) (Nat.le_refl _) _⟩
      rw [choiceK_at ls k f hk]
      have hrv := own_ne HR.out.row HR.out.res (by simp)
      exact ownsRow_setCell_other (ownsRow_setCell_other HR.out.row hrv _) hrv _
end Go.Proofs.Ytkjmpenaifhfjaa
