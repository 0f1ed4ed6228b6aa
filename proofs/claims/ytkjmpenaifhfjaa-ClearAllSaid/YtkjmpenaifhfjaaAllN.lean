/- The walk of clear.All's inner function where a choice goes on. -/
import Derived.Test.YtkjmpenaifhfjaaAllO
import Derived.Deep.CutRange
import Derived.Test.YtkjmpenaifhfjaaUntil
namespace Go.Proofs.Ytkjmpenaifhfjaa
open Go.RowKit Go.Maps Go.Shelf
open Go.ChangeMaps Go.WideMaps

/-- What an inner call has done so far. -/
structure On (p : Nat → Prop) (J : List (Value × List Int) → World → Prop) (W0 W : World) (B cc yc bc xc oc l bp m : Nat) (n : Int) (A : Option Addr) (c : Nat) (hs : List Hdr) (ls : List (List Offer)) (cv : Value) (head : List Int) (pre : List (Value × List Int)) (wr : World) : Prop where
  env : Env W0.heap.size B cc yc bc xc oc l bp m n A c hs ls cv head wr
  j : J pre wr
  o0 : OutP p W0 wr
  o1 : OutP (fun i => p i ∨ cv.ownBlock = some i ∨ i = m) W wr
section
variable {p : Nat → Prop} {J : List (Value × List Int) → World → Prop} {W0 W : World} {B cc yc bc xc oc l bp m : Nat} {n : Int} {A : Option Addr} {c : Nat} {hs : List Hdr} {ls : List (List Offer)} {cv : Value} {head : List Int} {pre : List (Value × List Int)} {wr wr' : World}
theorem On.below (h : On p J W0 W B cc yc bc xc oc l bp m n A c hs ls cv head pre wr) (hJ : LowFrom W0.heap.size J) (hb : Below wr.heap.size wr wr') : On p J W0 W B cc yc bc xc oc l bp m n A c hs ls cv head pre wr' :=
  ⟨h.env.below hb, hJ _ _ _ h.j (hb.mono (Nat.le_of_lt h.env.size)), h.o0.trans (OutP.of_below hb), h.o1.trans (OutP.of_below hb)⟩
theorem On.front {z : Int} (h : On p J W0 W B cc yc bc xc oc l bp m n A c hs ls cv (head ++ [z]) pre wr) : On p J W0 W B cc yc bc xc oc l bp m n A c hs ls cv head pre wr := ⟨h.env.front, h.j, h.o0, h.o1⟩
theorem On.memo (h : On p J W0 W B cc yc bc xc oc l bp m n A c hs ls cv head pre wr) (hJ : LowFrom W0.heap.size J) (hb : Board wr' W0.heap.size bp m n A c hs ls) (hg : wr.grownBy wr' (some m)) : On p J W0 W B cc yc bc xc oc l bp m n A c hs ls cv head pre wr' :=
  ⟨h.env.memo hb hg, low_grown hJ h.j hg h.env.board.bm (Nat.le_of_lt h.env.size), out_low (q := fun i => i = m) h.o0 (out_grown hg rfl) (fun i e => .inr (by subst e; exact h.env.board.bm)), h.o1.trans ((out_grown (p := fun i => i = m) hg rfl).mono (fun _ e => .inr (.inr e)))⟩
theorem On.put (h : On p J W0 W B cc yc bc xc oc l bp m n A c hs ls cv head pre wr) (hJ : LowFrom W0.heap.size J) (hk : head.length < ls.length) : ∃ g cap v, cv = .slice (some ⟨g, 0, none⟩) ls.length cap ∧ W0.heap.size ≤ g ∧ wr.cell? ⟨g, head.length, none⟩ = some (.int .i64 v) ∧ wr.frozen? ⟨g, head.length, none⟩ = false ∧
    ∀ z : Int, On p J W0 W B cc yc bc xc oc l bp m n A c hs ls cv (head ++ [z]) pre (wr.setCell ⟨g, head.length, none⟩ (.int .i64 z)) := by
  obtain ⟨g, cap, v, h1, h2, h3, h4, h5⟩ := h.env.put hk
  refine ⟨g, cap, v, h1, h2, h3, h4, fun z => ⟨h5 z, ?_, ?_, ?_⟩⟩
  · exact hJ _ _ _ h.j ((Below.refl _ _).setCell h2 _)
  · exact out_low (q := fun i => i = g) h.o0 (OutP.set (OutP.refl (fun i => i = g) wr) ⟨g, head.length, none⟩ rfl _) (fun i e => .inr (by subst e; exact h2))
  · exact h.o1.trans ((OutP.set (OutP.refl (fun i => i = g) wr) ⟨g, head.length, none⟩ rfl _).mono (fun i e => .inr (.inl (by subst e; rw [h1]; rfl))))
end
/-- What the inner function does at a place. -/
def OnAll (p : Nat → Prop) (all : List (List Int)) (J Jx : List (Value × List Int) → World → Prop) (W0 : World) (B cc yc bc xc oc l bp m : Nat) (n : Int) (A : Option Addr) (c : Nat) (hs : List Hdr) (ls : List (List Offer)) (cv : Value) (k : Nat) : Prop :=
  ∀ (f : Nat) (head : List Int) (pre : List (Value × List Int)) (W : World), f < 2 ^ n.toNat → head.length = k → Env W0.heap.size B cc yc bc xc oc l bp m n A c hs ls cv head W → J pre W → OutP p W0 W → pre.map Prod.snd ++ (choicesW (ls.drop k) f).map (fun d => head ++ d) <+: all →
    Calls Try.prog 44 #[.int .i64 (k : Int), .int .u32 (f : Int), .pointer (some ⟨cc, 0, none⟩), .pointer (some ⟨yc, 0, none⟩), .pointer (some ⟨bc, 0, none⟩), .pointer (some ⟨xc, 0, none⟩), .pointer (some ⟨oc, 0, none⟩)] W (OnPost p all J Jx W0.heap.size B cc yc bc xc oc l bp m n A c hs ls cv head pre k f W)

theorem pre_map {P all C D : List (List Int)} {F : List Int → List Int} (h : P ++ C.map F <+: all) (hd : D <+: C) : P ++ D.map F <+: all := by
  obtain ⟨r, rfl⟩ := hd
  rw [List.map_append, ← List.append_assoc] at h
  exact (List.prefix_append _ _).trans h
theorem On.draws {p : Nat → Prop} {J : List (Value × List Int) → World → Prop} {W0 W : World} {B cc yc bc xc oc l bp m : Nat} {n : Int} {A : Option Addr} {c : Nat} {hs : List Hdr} {ls : List (List Offer)} {cv : Value} {head : List Int} {pre : List (Value × List Int)} {wr : World}
    (h : On p J W0 W B cc yc bc xc oc l bp m n A c hs ls cv head pre wr) (hJ : LowFrom W0.heap.size J) (d : Nat) : On p J W0 W B cc yc bc xc oc l bp m n A c hs ls cv head pre (wr.drewN d) := h.below hJ (below_drewN (Below.refl _ _) d)
/-- Behind an inner call. -/
theorem On.inner {p : Nat → Prop} {J J' : List (Value × List Int) → World → Prop} {W0 W : World} {B cc yc bc xc oc l bp m : Nat} {n : Int} {A : Option Addr} {c : Nat} {hs : List Hdr} {ls : List (List Offer)} {cv : Value} {head head' : List Int} {pre pre' : List (Value × List Int)} {wr w' : World}
    (h : On p J W0 W B cc yc bc xc oc l bp m n A c hs ls cv head pre wr) (ho : OutP (fun i => p i ∨ cv.ownBlock = some i ∨ i = m) wr w') (hE : Env W0.heap.size B cc yc bc xc oc l bp m n A c hs ls cv head' w') (hj : J' pre' w') : On p J' W0 W B cc yc bc xc oc l bp m n A c hs ls cv head' pre' w' := by
  refine ⟨hE, hj, out_low h.o0 ho (fun i hi => ?_), h.o1.trans ho⟩
  rcases hi with hi | hi | hi
  · exact .inl hi
  · obtain ⟨xs, hr, _⟩ := h.env.row
    exact .inr (hr.lt i hi).1
  · exact .inr (by subst hi; exact h.env.board.bm)
/-- A variable of the round behind an inner call. -/
theorem On.loc {p : Nat → Prop} {J : List (Value × List Int) → World → Prop} {W0 W : World} {B cc yc bc xc oc l bp m : Nat} {n : Int} {A : Option Addr} {c : Nat} {hs : List Hdr} {ls : List (List Offer)} {cv : Value} {head : List Int} {pre : List (Value × List Int)} {wr w' : World} {q : Nat} {cs : Array Value} {ty : TypeId}
    (h : On p J W0 W B cc yc bc xc oc l bp m n A c hs ls cv head pre wr) (ho : OutP (fun i => p i ∨ cv.ownBlock = some i ∨ i = m) wr w') (hp : ∀ i, p i → B ≤ i ∧ i < W0.heap.size) (hq : wr.heap[q]? = some (.cells cs ty (0, 0))) (ht : ty ≠ 3) (hS : W0.heap.size ≤ q) : w'.heap[q]? = some (.cells cs ty (0, 0)) := by
  refine (ho.block q (lt_of_block hq) ?_).trans hq
  rintro (hi | hi | hi)
  · have := hp q hi; omega
  · obtain ⟨xs, hr, _⟩ := h.env.row
    exact own_ne hr hq (fun cur e => by injection e with _ e; exact ht e) hi
  · obtain ⟨D, ⟨es, clock, hmb, _⟩, _⟩ := h.env.board.map
    subst hi
    rw [hq] at hmb
    cases hmb

theorem map_cons_head (head : List Int) (z : Int) (L : List (List Int)) : (L.map (fun d => z :: d)).map (fun d => head ++ d) = L.map (fun d => (head ++ [z]) ++ d) := by
  rw [List.map_map]
  apply List.map_congr_left
  intro d _
  simp

set_option maxRecDepth 100000 in
set_option maxHeartbeats 4000000 in
theorem on_step {p : Nat → Prop} {all : List (List Int)} {J Jx : List (Value × List Int) → World → Prop} {W0 : World} {B cc yc bc xc oc l bp m : Nat} {n : Int} {A : Option Addr} {c : Nat} {hs : List Hdr} {ls : List (List Offer)} {cv : Value}
    (hI : GoodI n ls) (hp : ∀ i, p i → B ≤ i ∧ i < W0.heap.size) (hJ : LowFrom W0.heap.size J) (k : Nat) (hk : k < ls.length) (ih : OnAll p all J Jx W0 B cc yc bc xc oc l bp m n A c hs ls cv (k + 1)) : OnAll p all J Jx W0 B cc yc bc xc oc l bp m n A c hs ls cv k := by
  intro f head pre W hf hh hE hj ho hpre
  obtain ⟨d0, d1, d2, d3, d4, d5⟩ := hE.cells
  have hp2 := pow_small n hI.hi
  have hll : (ls.length : Int) ≤ 32 := by have := hI.few; omega
  have HW : Hid (∀ (j g : Nat) (X : World), j ≤ ls.length → g < 2 ^ n.toNat → Board X W0.heap.size bp m n A c hs ls → Calls Try.prog 30 #[.pointer (some ⟨bp, 0, none⟩), .int .i64 (j : Int), .int .u32 (g : Int)] X (WPost W0.heap.size bp m n A c hs ls (bestW (ls.drop j) g) X)) :=
    hide (fun j g X hj hg hbd => w_any W0.heap.size bp m n A c hs ls hI.few hI.hi hI.good (fun l hl' => by have := hI.short l hl'; omega) j hj g X hg hbd)
  obtain ⟨bb, bo, hA, hbB, hat⟩ := hE.buys.at_ (by omega)
  obtain ⟨⟨a1, a2⟩, l', ha, hlx, _, _⟩ := hE.buys.get hk
  subst hA
  have HCH := hide (choicesW_at hlx f)
  have hgl := hI.good l' (List.mem_of_getElem? hlx)
  have hlen := hI.short l' (List.mem_of_getElem? hlx)
  have HROW : Hid (∀ X, Buys X B (some ⟨bb, bo, none⟩) hs ls → Offs X B a1 l') := hide (fun X hX => (hX.row k _ l' ha hlx).1)
  have HCELL : Hid (∀ X, Buys X B (some ⟨bb, bo, none⟩) hs ls → X.cell? ⟨bb, bo + k, none⟩ = some (.slice a1 l'.length a2)) := hide (fun X hX => by
    obtain ⟨b', o', e, _, h'⟩ := hX.at_ (by omega)
    injection e with e
    injection e with e1 e2 e3
    subst e1 e2
    exact h' k _ l' ha hlx)
  have HON : Hid (On p J W0 W B cc yc bc xc oc l bp m n (some ⟨bb, bo, none⟩) c hs ls cv head pre W) := hide ⟨hE, hj, ho, OutP.refl _ _⟩
  have HIH := hide ih
  have HJ := hide hJ
  have HP := hide hp
  have HG := hide hgl
  have HPR := hide hpre
  have HBD : Hid (∀ g, 0 ≤ bestW (ls.drop (k + 1)) g ∧ bestW (ls.drop (k + 1)) g ≤ 31 * 1099511627776) := hide (fun g => by
    have := bestW_bd _ (hI.good.drop (k + 1)) g
    have := hI.few
    simp only [List.length_drop] at *
    omega)
  have HLE : Hid (k + 1 ≤ ls.length) := hide hk
  have hkl : (k : Int) < (ls.length : Int) := by omega
  have h1 : ((k : Int) == (ls.length : Int)) = false := by simp; omega
  have hf32 : f < 4294967296 := by omega
  have HF := hide hf
  have HHH := hide hh
  have hw1 : IntKind.i64.wrap ((k : Int) + 1) = (k : Int) + 1 := Go.IntWalk.i64_in _ (by omega)
  have hcv : ∃ A1 c1, cv = .slice A1 ls.length c1 := by
    obtain ⟨xs, hr, _⟩ := hE.row
    obtain ⟨A1, c1, h, _⟩ := own_sh hr
    exact ⟨A1, c1, h⟩
  obtain ⟨A1, c1, rfl⟩ := hcv
  clear ih hJ hp hgl hpre hE hj ho hat ha hlx hI hf hh
  unfold OnAll at HIH
  go_enter Try.func44, Try.ntmps44
  go_wp2_with (go_at_call 30; refine (HW.out k f _ (by have := HLE.out; omega) HF.out HON.out.env.board).mono ?_; rintro e w1 ⟨rfl, hb1, hg1⟩; have HON1 := hide (HON.out.memo HJ.out hb1 hg1); obtain ⟨e0, e1, e2, e3, e4, e5⟩ := HON1.out.env.cells; have e6 := HCELL.out w1 HON1.out.env.buys; clear hb1 hg1)
  clear e0 e1 e2 e3 e4 e5 e6 d0 d1 d2 d3 d4 d5 h1
  obtain ⟨WV, hWV⟩ : ∃ WV, WV = bestW (ls.drop k) f := ⟨_, rfl⟩
  rw [← hWV]
  rw [← hWV] at HCH
  clear hWV
  obtain ⟨rest, hrest⟩ : ∃ rest, rest = bestW (ls.drop (k + 1)) := ⟨_, rfl⟩
  have HRS := hide hrest
  have HRF : Hid (bestW (ls.drop (k + 1)) = rest) := hide hrest.symm
  clear hrest
  go_loopw [31] (fun iv wr => ∃ (t : Nat) (pre' : List (Value × List Int)), t ≤ l'.length ∧ iv = .int .i64 t ∧ On p J W0 W B cc yc bc xc oc l bp m n (some ⟨bb, bo, none⟩) c hs ls (.slice A1 ls.length c1) head pre' wr ∧ pre'.map Prod.snd = pre.map Prod.snd ++ (hitsW (ls.drop (k + 1)) WV f (choicesW (ls.drop (k + 1))) 0 (l'.take t)).map (fun d => head ++ d)) (fun iv _ => l'.length - (intOf iv).toNat)
  case atStart => exact ⟨0, pre, Nat.zero_le _, rfl, HON1.out, by simp [hitsW]⟩
  case round =>
    rename World => wr
    obtain ⟨t, pre', ht, rfl, hon, hpre'⟩ := hrel
    have HN := hide hon
    have HPX := hide hpre'
    clear hon hpre'
    by_cases hlt : t < l'.length
    · obtain ⟨ob, oo, hA1, hobB, hoc⟩ := (HROW.out wr HN.out.env.buys).at_ (by omega)
      obtain ⟨x, hx⟩ : ∃ x, l'[t]? = some x := ⟨l'[t], List.getElem?_eq_getElem hlt⟩
      obtain ⟨q0, q1⟩ := hoc t x hx
      have hgx := HG.out x (List.mem_of_getElem? hx)
      have HT := hide (hitsW_take (ls := ls.drop (k + 1)) (W := WV) (f := f) (rec := choicesW (ls.drop (k + 1))) hx)
      have HX := hide hx
      obtain ⟨g, co⟩ := x
      obtain ⟨_, hg32, hco1, hco2⟩ := hgx
      simp only at q0 q1 hg32 hco1 hco2
      subst hA1
      have hB1 : Below wr.heap.size wr (wr.alloc (.cells #[.int .u32 (g : Int), .int .i64 co] 51)) := (Below.refl _ _).alloc (Nat.le_refl _) _
      have hN2 := HN.out.below HJ.out hB1
      obtain ⟨gb, cap, v0, hcv, hgS, hg0, hfr, hput⟩ := hN2.put HJ.out (by rw [HHH.out]; exact HLE.out)
      injection hcv with hcv _ hcap
      subst hcv hcap
      rw [HHH.out] at hg0 hfr hput
      have HPUT := hide (hput (t : Int))
      have d0 := hN2.env.cells.1
      have hQ : (wr.alloc (.cells #[.int .u32 (g : Int), .int .i64 co] 51)).heap[wr.heap.size]? = some (.cells #[.int .u32 (g : Int), .int .i64 co] 51 (0, 0)) := heap_alloc_new wr _
      have hQ2 : ((wr.alloc (.cells #[.int .u32 (g : Int), .int .i64 co] 51)).setCell ⟨gb, k, none⟩ (.int .i64 (t : Int))).heap[wr.heap.size]? = some (.cells #[.int .u32 (g : Int), .int .i64 co] 51 (0, 0)) := by
        have hgb : gb ≠ wr.heap.size := by
          obtain ⟨xs, hr, _⟩ := HN.out.env.row
          have := (hr.lt gb rfl).2
          omega
        exact (Below.heap_setCell _ _ _ _ (Ne.symm hgb)).trans hQ
      have HQ2 := hide hQ2
      clear hN2 hput hB1 hQ hQ2 hoc hx
      have HSQ : Hid (W0.heap.size ≤ wr.heap.size) := hide (Nat.le_of_lt HN.out.env.size)
      go_upto_region 8 with fail
      generalize (wr.alloc (.cells #[.int .u32 (g : Int), .int .i64 co] 51)).setCell ⟨gb, k, none⟩ (.int .i64 (t : Int)) = w7 at *
      generalize wr.heap.size = q at *
      clear d0 hg0 hfr q0 q1
      have r0 := cell_of_row w7 q 0 _ _ (0, 0) HQ2.out
      have r1 := cell_of_row w7 q 1 _ _ (0, 0) HQ2.out
      simp at r0 r1
      obtain ⟨_, _, e2, _, _, e5⟩ := HPUT.out.env.cells
      have hx1 := andNot_lessG g f hg32 hf32
      have hx2 := andNot_lessG f g hf32 hg32
      by_cases hwi : withinB g f = true
      · have ht1 : ((lessG g f : Int) == 0) = true := by
          have : lessG g f = 0 := by simpa [withinB] using hwi
          simp [this]
        have HWI := hide hwi
        clear hwi
        have hv := HBD.out (lessG f g)
        have hHB : hitB (bestW (ls.drop (k + 1))) WV f (g, co) = (co + bestW (ls.drop (k + 1)) (lessG f g) == WV) := by
          unfold hitB
          rw [HWI.out, Bool.true_and]
        rw [hHB] at HT
        have HIA := hide (HW.out (k + 1) (lessG f g) w7.drew HLE.out (lessG_top f g _ HF.out) (HPUT.out.draws HJ.out 1).env.board)
        obtain ⟨v, hvv⟩ : ∃ v, v = bestW (ls.drop (k + 1)) (lessG f g) := ⟨_, rfl⟩
        rw [← hvv] at hv HT HIA
        clear hvv hHB
        have hw2 : IntKind.i64.wrap (co + v) = co + v := Go.IntWalk.i64_in _ (by omega)
        by_cases hse : co + v = WV
        · have hs1 : (co + v == WV) = true := by simpa using hse
          rw [hs1, if_pos rfl] at HT
          have HPS : Hid (pre'.map Prod.snd ++ (choicesW (ls.drop (k + 1)) (lessG f g)).map (fun d => (head ++ [(t : Int)]) ++ d) = pre.map Prod.snd ++ (hitsW (ls.drop (k + 1)) WV f (choicesW (ls.drop (k + 1))) 0 (l'.take (t + 1))).map (fun d => head ++ d)) := hide (by
            rw [HPX.out, HT.out, List.map_append, map_cons_head, List.append_assoc])
          have HPF : Hid (pre'.map Prod.snd ++ (choicesW (ls.drop (k + 1)) (lessG f g)).map (fun d => (head ++ [(t : Int)]) ++ d) <+: all) := hide (by
            rw [HPS.out]
            exact pre_map HPR.out ((hitsW_pre (t + 1)).trans (by rw [HCH.out]; exact List.prefix_append _ _)))
          clear hse
          have HIC : Hid (∀ X : World, Env W0.heap.size B cc yc bc xc oc l bp m n (some ⟨bb, bo, none⟩) c hs ls (.slice (some ⟨gb, 0, none⟩) ls.length c1) (head ++ [(t : Int)]) X → J pre' X → OutP p W0 X → Calls Try.prog 44 #[.int .i64 ((k : Int) + 1), .int .u32 (lessG f g : Int), .pointer (some ⟨cc, 0, none⟩), .pointer (some ⟨yc, 0, none⟩), .pointer (some ⟨bc, 0, none⟩), .pointer (some ⟨xc, 0, none⟩), .pointer (some ⟨oc, 0, none⟩)] X (OnPost p all J Jx W0.heap.size B cc yc bc xc oc l bp m n (some ⟨bb, bo, none⟩) c hs ls (.slice (some ⟨gb, 0, none⟩) ls.length c1) (head ++ [(t : Int)]) pre' (k + 1) (lessG f g) X)) := hide (fun X h1 h2 h3 =>
            HIH.out (lessG f g) (head ++ [(t : Int)]) pre' X (lessG_top f g _ HF.out) (by rw [List.length_append, HHH.out]; rfl) h1 h2 h3 HPF.out)
          have hS0 := And.intro r0 (And.intro r1 (And.intro e2 e5))
          refine wp_region_U 31 (fun W => W.cell? ⟨q, 0, none⟩ = some (.int .u32 (g : Int)) ∧ W.cell? ⟨q, 1, none⟩ = some (.int .i64 co) ∧ W.cell? ⟨bc, 0, none⟩ = some (.pointer (some ⟨bp, 0, none⟩)) ∧ W.cell? ⟨oc, 0, none⟩ = some (.func (.func 44) #[] #[.pointer (some ⟨cc, 0, none⟩), .pointer (some ⟨yc, 0, none⟩), .pointer (some ⟨bc, 0, none⟩), .pointer (some ⟨xc, 0, none⟩), .pointer (some ⟨oc, 0, none⟩)])) rfl hS0 (fun hHeld => ?_)
          clear r0 r1 e2 e5
          refine AnyU.take (i := 0) (v := ?v201) rfl (by kernel_rfl) (by kernel_rfl) (by kernel_rfl) (by kernel_rfl) (fun _ _ _ h => h) (Or.inl ⟨by rfl, ?hy201⟩) hHeld ?r201
          case hy201 => (intro w hSw; (try dsimp only at hSw); go_simp <;> with_reducible rfl)
          simp only [Act.put, List.setIfInBounds_toArray, List.set_cons_zero, List.set_cons_succ]
          refine AnyU.take (i := 1) (v := ?v202) rfl (by kernel_rfl) (by kernel_rfl) (by kernel_rfl) (by kernel_rfl) (fun _ _ _ h => h) (Or.inl ⟨by rfl, ?hy202⟩) hHeld ?r202
          case hy202 => (intro w hSw; (try dsimp only at hSw); go_simp <;> with_reducible rfl)
          simp only [Act.put, List.setIfInBounds_toArray, List.set_cons_zero, List.set_cons_succ]
          refine AnyU.take (i := 2) (v := ?v203) rfl (by kernel_rfl) (by kernel_rfl) (by kernel_rfl) (by kernel_rfl) (fun _ _ _ h => h) (Or.inl ⟨by rfl, ?hy203⟩) hHeld ?r203
          case hy203 => (intro w hSw; (try dsimp only at hSw); go_simp <;> with_reducible rfl)
          simp only [Act.put, List.setIfInBounds_toArray, List.set_cons_zero, List.set_cons_succ]
          refine AnyU.take (i := 3) (v := ?v204) rfl (by kernel_rfl) (by kernel_rfl) (by kernel_rfl) (by kernel_rfl) (fun _ _ _ h => h) (Or.inl ⟨by rfl, ?hy204⟩) hHeld ?r204
          case hy204 => (intro w hSw; (try dsimp only at hSw); go_simp <;> with_reducible rfl)
          simp only [Act.put, List.setIfInBounds_toArray, List.set_cons_zero, List.set_cons_succ]
          refine AnyU.take (i := 4) (v := ?v205) rfl (by kernel_rfl) (by kernel_rfl) (by kernel_rfl) (by kernel_rfl) (fun _ _ _ h => h) (Or.inl ⟨by rfl, ?hy205⟩) hHeld ?r205
          case hy205 => (intro w hSw; (try dsimp only at hSw); go_simp <;> with_reducible rfl)
          simp only [Act.put, List.setIfInBounds_toArray, List.set_cons_zero, List.set_cons_succ]
          refine AnyU.take (i := 5) (v := ?v206) rfl (by kernel_rfl) (by kernel_rfl) (by kernel_rfl) (by kernel_rfl) (fun _ _ _ h => h) (Or.inl ⟨by rfl, ?hy206⟩) hHeld ?r206
          case hy206 => (intro w hSw; (try dsimp only at hSw); go_simp <;> with_reducible rfl)
          simp only [Act.put, List.setIfInBounds_toArray, List.set_cons_zero, List.set_cons_succ]
          refine AnyU.take (i := 6) (v := ?v207) rfl (by kernel_rfl) (by kernel_rfl) (by kernel_rfl) (by kernel_rfl) (fun _ _ _ h => h) (Or.inl ⟨by rfl, ?hy207⟩) hHeld ?r207
          case hy207 => (intro w hSw; (try dsimp only at hSw); go_simp <;> with_reducible rfl)
          simp only [Act.put, List.setIfInBounds_toArray, List.set_cons_zero, List.set_cons_succ]
          refine AnyU.take (i := 7) (v := ?v208) rfl (by kernel_rfl) (by kernel_rfl) (by kernel_rfl) (by kernel_rfl) (fun _ _ _ h => h) (Or.inl ⟨by rfl, ?hy208⟩) hHeld ?r208
          case hy208 => (intro w hSw; (try dsimp only at hSw); go_simp <;> with_reducible rfl)
          simp only [Act.put, List.setIfInBounds_toArray, List.set_cons_zero, List.set_cons_succ]
          refine AnyU.take (i := 8) (v := ?v209) rfl (by kernel_rfl) (by kernel_rfl) (by kernel_rfl) (by kernel_rfl) (fun _ _ _ h => h) (Or.inl ⟨by rfl, ?hy209⟩) hHeld ?r209
          case hy209 => (intro w hSw; (try dsimp only at hSw); go_simp <;> with_reducible rfl)
          simp only [Act.put, List.setIfInBounds_toArray, List.set_cons_zero, List.set_cons_succ]
          refine AnyU.take (i := 9) (v := ?v210) rfl (by kernel_rfl) (by kernel_rfl) (by kernel_rfl) (by kernel_rfl) (fun _ _ _ h => h) (Or.inl ⟨by rfl, ?hy210⟩) hHeld ?r210
          case hy210 => (intro w hSw; (try dsimp only at hSw); go_simp <;> with_reducible rfl)
          simp only [Act.put, List.setIfInBounds_toArray, List.set_cons_zero, List.set_cons_succ]
          refine AnyU.take (i := 10) (v := ?v211) rfl (by kernel_rfl) (by kernel_rfl) (by kernel_rfl) (by kernel_rfl) (fun _ _ _ h => h) (Or.inl ⟨by rfl, ?hy211⟩) hHeld ?r211
          case hy211 => (intro w hSw; (try dsimp only at hSw); go_simp <;> with_reducible rfl)
          simp only [Act.put, List.setIfInBounds_toArray, List.set_cons_zero, List.set_cons_succ]
          refine AnyU.take (i := 11) (v := ?v212) rfl (by kernel_rfl) (by kernel_rfl) (by kernel_rfl) (by kernel_rfl) (fun _ _ _ h => h) (Or.inl ⟨by rfl, ?hy212⟩) hHeld ?r212
          case hy212 => (intro w hSw; (try dsimp only at hSw); go_simp <;> with_reducible rfl)
          simp only [Act.put, List.setIfInBounds_toArray, List.set_cons_zero, List.set_cons_succ]
          refine AnyU.take (i := 12) (v := ?v213) rfl (by kernel_rfl) (by kernel_rfl) (by kernel_rfl) (by kernel_rfl) (fun _ _ _ h => h) (Or.inl ⟨by rfl, ?hy213⟩) hHeld ?r213
          case hy213 => (intro w hSw; (try dsimp only at hSw); go_simp <;> with_reducible rfl)
          simp only [Act.put, List.setIfInBounds_toArray, List.set_cons_zero, List.set_cons_succ]
          refine AnyU.take (i := 13) (v := ?v214) rfl (by kernel_rfl) (by kernel_rfl) (by kernel_rfl) (by kernel_rfl) (fun _ _ _ h => h) (Or.inl ⟨by rfl, ?hy214⟩) hHeld ?r214
          case hy214 => (intro w hSw; (try dsimp only at hSw); go_simp <;> with_reducible rfl)
          simp only [Act.put, List.setIfInBounds_toArray, List.set_cons_zero, List.set_cons_succ]
          refine AnyU.take (i := 14) (v := ?v215) rfl (by kernel_rfl) (by kernel_rfl) (by kernel_rfl) (by kernel_rfl) (fun _ _ _ h => h) (Or.inl ⟨by rfl, ?hy215⟩) hHeld ?r215
          case hy215 => (intro w hSw; (try dsimp only at hSw); go_simp <;> with_reducible rfl)
          simp only [Act.put, List.setIfInBounds_toArray, List.set_cons_zero, List.set_cons_succ]
          refine AnyU.take (i := 17) (v := ?v216) rfl (by kernel_rfl) (by kernel_rfl) (by kernel_rfl) (by kernel_rfl) (fun _ _ _ h => h) (Or.inl ⟨by rfl, ?hy216⟩) hHeld ?r216
          case hy216 => (intro w hSw; (try dsimp only at hSw); go_simp <;> with_reducible rfl)
          simp only [Act.put, List.setIfInBounds_toArray, List.set_cons_zero, List.set_cons_succ]
          refine AnyU.next (js := [15]) (by kernel_rfl) (by simp) (NextU.cons rfl (fun K hK => ?_) NextU.nil)
          go_simp
          refine (HIA.out).mono ?_
          rintro e w8 ⟨rfl, hb8, hg8⟩
          have HON8 := hide ((HPUT.out.draws HJ.out 1).memo HJ.out hb8 hg8)
          have HQ8 : Hid (w8.heap[q]? = some (.cells #[.int .u32 (g : Int), .int .i64 co] 51 (0, 0))) := hide ((HPUT.out.draws HJ.out 1).loc (out_grown hg8 (.inr (.inr rfl))) HP.out HQ2.out (by decide) HSQ.out)
          have s0 := cell_of_row w8 q 0 _ _ (0, 0) HQ8.out
          have s1 := cell_of_row w8 q 1 _ _ (0, 0) HQ8.out
          simp at s0 s1
          have hS8 := hide (And.intro s0 (And.intro s1 (And.intro HON8.out.env.cells.2.2.1 HON8.out.env.cells.2.2.2.2.2)))
          clear hb8 hg8 s0 s1 hS0 hHeld
          go_wp2_with fail
          refine hK.out _ _ (fun _ => hS8.out) (fun hHeld => ?_)
          replace hHeld := hHeld (by decide)
          try simp only [Act.put, List.setIfInBounds_toArray, List.set_cons_zero, List.set_cons_succ]
          refine AnyU.take (i := 16) (v := ?v217) rfl (by kernel_rfl) (by kernel_rfl) (by kernel_rfl) (by kernel_rfl) (fun _ _ _ h => h) (Or.inl ⟨by rfl, ?hy217⟩) hHeld ?r217
          case hy217 => (intro w hSw; (try dsimp only at hSw); go_simp <;> with_reducible rfl)
          simp only [Act.put, List.setIfInBounds_toArray, List.set_cons_zero, List.set_cons_succ]
          refine AnyU.take (i := 18) (v := ?v218) rfl (by kernel_rfl) (by kernel_rfl) (by kernel_rfl) (by kernel_rfl) (fun _ _ _ h => h) (Or.inl ⟨by rfl, ?hy218⟩) hHeld ?r218
          case hy218 => (intro w hSw; (try dsimp only at hSw); go_simp <;> with_reducible rfl)
          simp only [Act.put, List.setIfInBounds_toArray, List.set_cons_zero, List.set_cons_succ]
          refine AnyU.take (i := 19) (v := ?v219) rfl (by kernel_rfl) (by kernel_rfl) (by kernel_rfl) (by kernel_rfl) (fun _ _ _ h => h) (Or.inl ⟨by rfl, ?hy219⟩) hHeld ?r219
          case hy219 => (intro w hSw; (try dsimp only at hSw); go_simp <;> with_reducible rfl)
          simp only [Act.put, List.setIfInBounds_toArray, List.set_cons_zero, List.set_cons_succ]
          refine AnyU.take (i := 20) (v := ?v220) rfl (by kernel_rfl) (by kernel_rfl) (by kernel_rfl) (by kernel_rfl) (fun _ _ _ h => h) (Or.inl ⟨by rfl, ?hy220⟩) hHeld ?r220
          case hy220 => (intro w hSw; (try dsimp only at hSw); go_simp <;> with_reducible rfl)
          simp only [Act.put, List.setIfInBounds_toArray, List.set_cons_zero, List.set_cons_succ]
          refine AnyU.take (i := 21) (v := ?v221) rfl (by kernel_rfl) (by kernel_rfl) (by kernel_rfl) (by kernel_rfl) (fun _ _ _ h => h) (Or.inl ⟨by rfl, ?hy221⟩) hHeld ?r221
          case hy221 => (intro w hSw; (try dsimp only at hSw); go_simp <;> with_reducible rfl)
          simp only [Act.put, List.setIfInBounds_toArray, List.set_cons_zero, List.set_cons_succ]
          refine AnyU.take (i := 22) (v := ?v222) rfl (by kernel_rfl) (by kernel_rfl) (by kernel_rfl) (by kernel_rfl) (fun _ _ _ h => h) (Or.inl ⟨by rfl, ?hy222⟩) hHeld ?r222
          case hy222 => (intro w hSw; (try dsimp only at hSw); go_simp <;> with_reducible rfl)
          simp only [Act.put, List.setIfInBounds_toArray, List.set_cons_zero, List.set_cons_succ]
          refine AnyU.take (i := 23) (v := ?v223) rfl (by kernel_rfl) (by kernel_rfl) (by kernel_rfl) (by kernel_rfl) (fun _ _ _ h => h) (Or.inl ⟨by rfl, ?hy223⟩) hHeld ?r223
          case hy223 => (intro w hSw; (try dsimp only at hSw); go_simp <;> with_reducible rfl)
          simp only [Act.put, List.setIfInBounds_toArray, List.set_cons_zero, List.set_cons_succ]
          refine AnyU.take (i := 24) (v := ?v224) rfl (by kernel_rfl) (by kernel_rfl) (by kernel_rfl) (by kernel_rfl) (fun _ _ _ h => h) (Or.inl ⟨by rfl, ?hy224⟩) hHeld ?r224
          case hy224 => (intro w hSw; (try dsimp only at hSw); go_simp <;> with_reducible rfl)
          simp only [Act.put, List.setIfInBounds_toArray, List.set_cons_zero, List.set_cons_succ]
          refine AnyU.take (i := 25) (v := ?v225) rfl (by kernel_rfl) (by kernel_rfl) (by kernel_rfl) (by kernel_rfl) (fun _ _ _ h => h) (Or.inl ⟨by rfl, ?hy225⟩) hHeld ?r225
          case hy225 => (intro w hSw; (try dsimp only at hSw); go_simp <;> with_reducible rfl)
          simp only [Act.put, List.setIfInBounds_toArray, List.set_cons_zero, List.set_cons_succ]
          refine AnyU.take (i := 26) (v := ?v226) rfl (by kernel_rfl) (by kernel_rfl) (by kernel_rfl) (by kernel_rfl) (fun _ _ _ h => h) (Or.inl ⟨by rfl, ?hy226⟩) hHeld ?r226
          case hy226 => (intro w hSw; (try dsimp only at hSw); go_simp <;> with_reducible rfl)
          simp only [Act.put, List.setIfInBounds_toArray, List.set_cons_zero, List.set_cons_succ]
          refine AnyU.take (i := 27) (v := ?v227) rfl (by kernel_rfl) (by kernel_rfl) (by kernel_rfl) (by kernel_rfl) (fun _ _ _ h => h) (Or.inl ⟨by rfl, ?hy227⟩) hHeld ?r227
          case hy227 => (intro w hSw; (try dsimp only at hSw); go_simp <;> with_reducible rfl)
          simp only [Act.put, List.setIfInBounds_toArray, List.set_cons_zero, List.set_cons_succ]
          refine AnyU.next (js := [28]) (by kernel_rfl) (by simp) (NextU.cons rfl (fun K hK => ?_) NextU.nil)
          go_simp
          refine (HIC.out w8 HON8.out.env HON8.out.j HON8.out.o0).mono ?_
          rintro e w9 ⟨ho9, hE9, b9, pre9, rfl, hb9⟩
          have hq9 := HON8.out.loc ho9 HP.out HQ8.out (by decide) HSQ.out
          have s0 := cell_of_row w9 q 0 _ _ (0, 0) hq9
          have s1 := cell_of_row w9 q 1 _ _ (0, 0) hq9
          simp at s0 s1
          have hS9 := hide (And.intro s0 (And.intro s1 (And.intro hE9.cells.2.2.1 hE9.cells.2.2.2.2.2)))
          have HO9 := hide ho9
          have HE9 := hide hE9
          have HB9 := hide hb9
          clear ho9 hE9 hb9 s0 s1 hq9 hHeld
          go_wp2_with fail
          refine hK.out _ _ (fun _ => hS9.out) (fun hHeld => ?_)
          replace hHeld := hHeld (by decide)
          try simp only [Act.put, List.setIfInBounds_toArray, List.set_cons_zero, List.set_cons_succ]
          refine AnyU.take (i := 29) (v := ?v228) rfl (by kernel_rfl) (by kernel_rfl) (by kernel_rfl) (by kernel_rfl) (fun _ _ _ h => h) (Or.inl ⟨by rfl, ?hy228⟩) hHeld ?r228
          case hy228 => (intro w hSw; (try dsimp only at hSw); go_simp <;> with_reducible rfl)
          simp only [Act.put, List.setIfInBounds_toArray, List.set_cons_zero, List.set_cons_succ]
          refine AnyU.take (i := 30) (v := ?v229) rfl (by kernel_rfl) (by kernel_rfl) (by kernel_rfl) (by kernel_rfl) (fun _ _ _ h => h) (Or.inl ⟨by rfl, ?hy229⟩) hHeld ?r229
          case hy229 => (intro w hSw; (try dsimp only at hSw); go_simp <;> with_reducible rfl)
          simp only [Act.put, List.setIfInBounds_toArray, List.set_cons_zero, List.set_cons_succ]
          refine AnyU.over (by kernel_rfl) ?_ _
          clear hHeld
          cases b9
          · have hx9 : pre9.map Prod.snd <+: all ∧ Jx pre9 w9 := by
              rcases HB9.out with ⟨h, _⟩ | ⟨_, h⟩
              · cases h
              · exact h
            have HX9 := hide hx9
            clear hx9
            go_wp2_with fail
            go_ret
            have hfin := HON8.out.inner (J' := Jx) HO9.out HE9.out HX9.out.2
            exact ⟨hfin.o1, hfin.env.front, false, pre9, rfl, .inr ⟨rfl, HX9.out⟩⟩
          · have hx9 : pre9.map Prod.snd = pre'.map Prod.snd ++ (choicesW (ls.drop (k + 1)) (lessG f g)).map (fun d => (head ++ [(t : Int)]) ++ d) ∧ J pre9 w9 := by
              rcases HB9.out with ⟨_, h⟩ | ⟨h, _⟩
              · exact h
              · cases h
            have HX9 := hide hx9
            clear hx9
            go_wp2_with fail
            go_roundw
            case rel => exact ⟨t + 1, pre9, by omega, by go_num, (HON8.out.inner (J' := J) HO9.out HE9.out HX9.out.2).front, by rw [HX9.out.1, HPS.out]⟩
            case measure => simp [intOf]; omega
        · have hs1 : (co + v == WV) = false := by simpa using hse
          rw [hs1, if_neg (by decide), List.append_nil] at HT
          clear hse
          have hS0 := And.intro r0 (And.intro r1 (And.intro e2 e5))
          refine wp_region_U 31 (fun W => W.cell? ⟨q, 0, none⟩ = some (.int .u32 (g : Int)) ∧ W.cell? ⟨q, 1, none⟩ = some (.int .i64 co) ∧ W.cell? ⟨bc, 0, none⟩ = some (.pointer (some ⟨bp, 0, none⟩)) ∧ W.cell? ⟨oc, 0, none⟩ = some (.func (.func 44) #[] #[.pointer (some ⟨cc, 0, none⟩), .pointer (some ⟨yc, 0, none⟩), .pointer (some ⟨bc, 0, none⟩), .pointer (some ⟨xc, 0, none⟩), .pointer (some ⟨oc, 0, none⟩)])) rfl hS0 (fun hHeld => ?_)
          clear r0 r1 e2 e5
          refine AnyU.take (i := 0) (v := ?v230) rfl (by kernel_rfl) (by kernel_rfl) (by kernel_rfl) (by kernel_rfl) (fun _ _ _ h => h) (Or.inl ⟨by rfl, ?hy230⟩) hHeld ?r230
          case hy230 => (intro w hSw; (try dsimp only at hSw); go_simp <;> with_reducible rfl)
          simp only [Act.put, List.setIfInBounds_toArray, List.set_cons_zero, List.set_cons_succ]
          refine AnyU.take (i := 1) (v := ?v231) rfl (by kernel_rfl) (by kernel_rfl) (by kernel_rfl) (by kernel_rfl) (fun _ _ _ h => h) (Or.inl ⟨by rfl, ?hy231⟩) hHeld ?r231
          case hy231 => (intro w hSw; (try dsimp only at hSw); go_simp <;> with_reducible rfl)
          simp only [Act.put, List.setIfInBounds_toArray, List.set_cons_zero, List.set_cons_succ]
          refine AnyU.take (i := 2) (v := ?v232) rfl (by kernel_rfl) (by kernel_rfl) (by kernel_rfl) (by kernel_rfl) (fun _ _ _ h => h) (Or.inl ⟨by rfl, ?hy232⟩) hHeld ?r232
          case hy232 => (intro w hSw; (try dsimp only at hSw); go_simp <;> with_reducible rfl)
          simp only [Act.put, List.setIfInBounds_toArray, List.set_cons_zero, List.set_cons_succ]
          refine AnyU.take (i := 3) (v := ?v233) rfl (by kernel_rfl) (by kernel_rfl) (by kernel_rfl) (by kernel_rfl) (fun _ _ _ h => h) (Or.inl ⟨by rfl, ?hy233⟩) hHeld ?r233
          case hy233 => (intro w hSw; (try dsimp only at hSw); go_simp <;> with_reducible rfl)
          simp only [Act.put, List.setIfInBounds_toArray, List.set_cons_zero, List.set_cons_succ]
          refine AnyU.take (i := 4) (v := ?v234) rfl (by kernel_rfl) (by kernel_rfl) (by kernel_rfl) (by kernel_rfl) (fun _ _ _ h => h) (Or.inl ⟨by rfl, ?hy234⟩) hHeld ?r234
          case hy234 => (intro w hSw; (try dsimp only at hSw); go_simp <;> with_reducible rfl)
          simp only [Act.put, List.setIfInBounds_toArray, List.set_cons_zero, List.set_cons_succ]
          refine AnyU.take (i := 5) (v := ?v235) rfl (by kernel_rfl) (by kernel_rfl) (by kernel_rfl) (by kernel_rfl) (fun _ _ _ h => h) (Or.inl ⟨by rfl, ?hy235⟩) hHeld ?r235
          case hy235 => (intro w hSw; (try dsimp only at hSw); go_simp <;> with_reducible rfl)
          simp only [Act.put, List.setIfInBounds_toArray, List.set_cons_zero, List.set_cons_succ]
          refine AnyU.take (i := 6) (v := ?v236) rfl (by kernel_rfl) (by kernel_rfl) (by kernel_rfl) (by kernel_rfl) (fun _ _ _ h => h) (Or.inl ⟨by rfl, ?hy236⟩) hHeld ?r236
          case hy236 => (intro w hSw; (try dsimp only at hSw); go_simp <;> with_reducible rfl)
          simp only [Act.put, List.setIfInBounds_toArray, List.set_cons_zero, List.set_cons_succ]
          refine AnyU.take (i := 7) (v := ?v237) rfl (by kernel_rfl) (by kernel_rfl) (by kernel_rfl) (by kernel_rfl) (fun _ _ _ h => h) (Or.inl ⟨by rfl, ?hy237⟩) hHeld ?r237
          case hy237 => (intro w hSw; (try dsimp only at hSw); go_simp <;> with_reducible rfl)
          simp only [Act.put, List.setIfInBounds_toArray, List.set_cons_zero, List.set_cons_succ]
          refine AnyU.take (i := 8) (v := ?v238) rfl (by kernel_rfl) (by kernel_rfl) (by kernel_rfl) (by kernel_rfl) (fun _ _ _ h => h) (Or.inl ⟨by rfl, ?hy238⟩) hHeld ?r238
          case hy238 => (intro w hSw; (try dsimp only at hSw); go_simp <;> with_reducible rfl)
          simp only [Act.put, List.setIfInBounds_toArray, List.set_cons_zero, List.set_cons_succ]
          refine AnyU.take (i := 9) (v := ?v239) rfl (by kernel_rfl) (by kernel_rfl) (by kernel_rfl) (by kernel_rfl) (fun _ _ _ h => h) (Or.inl ⟨by rfl, ?hy239⟩) hHeld ?r239
          case hy239 => (intro w hSw; (try dsimp only at hSw); go_simp <;> with_reducible rfl)
          simp only [Act.put, List.setIfInBounds_toArray, List.set_cons_zero, List.set_cons_succ]
          refine AnyU.take (i := 10) (v := ?v240) rfl (by kernel_rfl) (by kernel_rfl) (by kernel_rfl) (by kernel_rfl) (fun _ _ _ h => h) (Or.inl ⟨by rfl, ?hy240⟩) hHeld ?r240
          case hy240 => (intro w hSw; (try dsimp only at hSw); go_simp <;> with_reducible rfl)
          simp only [Act.put, List.setIfInBounds_toArray, List.set_cons_zero, List.set_cons_succ]
          refine AnyU.take (i := 11) (v := ?v241) rfl (by kernel_rfl) (by kernel_rfl) (by kernel_rfl) (by kernel_rfl) (fun _ _ _ h => h) (Or.inl ⟨by rfl, ?hy241⟩) hHeld ?r241
          case hy241 => (intro w hSw; (try dsimp only at hSw); go_simp <;> with_reducible rfl)
          simp only [Act.put, List.setIfInBounds_toArray, List.set_cons_zero, List.set_cons_succ]
          refine AnyU.take (i := 12) (v := ?v242) rfl (by kernel_rfl) (by kernel_rfl) (by kernel_rfl) (by kernel_rfl) (fun _ _ _ h => h) (Or.inl ⟨by rfl, ?hy242⟩) hHeld ?r242
          case hy242 => (intro w hSw; (try dsimp only at hSw); go_simp <;> with_reducible rfl)
          simp only [Act.put, List.setIfInBounds_toArray, List.set_cons_zero, List.set_cons_succ]
          refine AnyU.take (i := 13) (v := ?v243) rfl (by kernel_rfl) (by kernel_rfl) (by kernel_rfl) (by kernel_rfl) (fun _ _ _ h => h) (Or.inl ⟨by rfl, ?hy243⟩) hHeld ?r243
          case hy243 => (intro w hSw; (try dsimp only at hSw); go_simp <;> with_reducible rfl)
          simp only [Act.put, List.setIfInBounds_toArray, List.set_cons_zero, List.set_cons_succ]
          refine AnyU.take (i := 14) (v := ?v244) rfl (by kernel_rfl) (by kernel_rfl) (by kernel_rfl) (by kernel_rfl) (fun _ _ _ h => h) (Or.inl ⟨by rfl, ?hy244⟩) hHeld ?r244
          case hy244 => (intro w hSw; (try dsimp only at hSw); go_simp <;> with_reducible rfl)
          simp only [Act.put, List.setIfInBounds_toArray, List.set_cons_zero, List.set_cons_succ]
          refine AnyU.take (i := 17) (v := ?v245) rfl (by kernel_rfl) (by kernel_rfl) (by kernel_rfl) (by kernel_rfl) (fun _ _ _ h => h) (Or.inl ⟨by rfl, ?hy245⟩) hHeld ?r245
          case hy245 => (intro w hSw; (try dsimp only at hSw); go_simp <;> with_reducible rfl)
          simp only [Act.put, List.setIfInBounds_toArray, List.set_cons_zero, List.set_cons_succ]
          refine AnyU.next (js := [15]) (by kernel_rfl) (by simp) (NextU.cons rfl (fun K hK => ?_) NextU.nil)
          go_simp
          refine (HIA.out).mono ?_
          rintro e w8 ⟨rfl, hb8, hg8⟩
          have HON8 := hide ((HPUT.out.draws HJ.out 1).memo HJ.out hb8 hg8)
          have HQ8 : Hid (w8.heap[q]? = some (.cells #[.int .u32 (g : Int), .int .i64 co] 51 (0, 0))) := hide ((HPUT.out.draws HJ.out 1).loc (out_grown hg8 (.inr (.inr rfl))) HP.out HQ2.out (by decide) HSQ.out)
          have s0 := cell_of_row w8 q 0 _ _ (0, 0) HQ8.out
          have s1 := cell_of_row w8 q 1 _ _ (0, 0) HQ8.out
          simp at s0 s1
          have hS8 := hide (And.intro s0 (And.intro s1 (And.intro HON8.out.env.cells.2.2.1 HON8.out.env.cells.2.2.2.2.2)))
          clear hb8 hg8 s0 s1 hS0 hHeld
          go_wp2_with fail
          refine hK.out _ _ (fun _ => hS8.out) (fun hHeld => ?_)
          replace hHeld := hHeld (by decide)
          try simp only [Act.put, List.setIfInBounds_toArray, List.set_cons_zero, List.set_cons_succ]
          refine AnyU.take (i := 16) (v := ?v246) rfl (by kernel_rfl) (by kernel_rfl) (by kernel_rfl) (by kernel_rfl) (fun _ _ _ h => h) (Or.inl ⟨by rfl, ?hy246⟩) hHeld ?r246
          case hy246 => (intro w hSw; (try dsimp only at hSw); go_simp <;> with_reducible rfl)
          simp only [Act.put, List.setIfInBounds_toArray, List.set_cons_zero, List.set_cons_succ]
          refine AnyU.take (i := 18) (v := ?v247) rfl (by kernel_rfl) (by kernel_rfl) (by kernel_rfl) (by kernel_rfl) (fun _ _ _ h => h) (Or.inl ⟨by rfl, ?hy247⟩) hHeld ?r247
          case hy247 => (intro w hSw; (try dsimp only at hSw); go_simp <;> with_reducible rfl)
          simp only [Act.put, List.setIfInBounds_toArray, List.set_cons_zero, List.set_cons_succ]
          refine AnyU.take (i := 19) (v := ?v248) rfl (by kernel_rfl) (by kernel_rfl) (by kernel_rfl) (by kernel_rfl) (fun _ _ _ h => h) (Or.inl ⟨by rfl, ?hy248⟩) hHeld ?r248
          case hy248 => (intro w hSw; (try dsimp only at hSw); go_simp <;> with_reducible rfl)
          simp only [Act.put, List.setIfInBounds_toArray, List.set_cons_zero, List.set_cons_succ]
          refine AnyU.take (i := 20) (v := ?v249) rfl (by kernel_rfl) (by kernel_rfl) (by kernel_rfl) (by kernel_rfl) (fun _ _ _ h => h) (Or.inl ⟨by rfl, ?hy249⟩) hHeld ?r249
          case hy249 => (intro w hSw; (try dsimp only at hSw); go_simp <;> with_reducible rfl)
          simp only [Act.put, List.setIfInBounds_toArray, List.set_cons_zero, List.set_cons_succ]
          refine AnyU.take (i := 21) (v := undef) rfl (by kernel_rfl) (by kernel_rfl) (by kernel_rfl) (by kernel_rfl) (fun _ _ _ h => h) (Or.inr ⟨by rfl, rfl⟩) hHeld ?_
          simp only [Act.put, List.setIfInBounds_toArray, List.set_cons_zero, List.set_cons_succ]
          refine AnyU.take (i := 22) (v := undef) rfl (by kernel_rfl) (by kernel_rfl) (by kernel_rfl) (by kernel_rfl) (fun _ _ _ h => h) (Or.inr ⟨by rfl, rfl⟩) hHeld ?_
          simp only [Act.put, List.setIfInBounds_toArray, List.set_cons_zero, List.set_cons_succ]
          refine AnyU.take (i := 23) (v := undef) rfl (by kernel_rfl) (by kernel_rfl) (by kernel_rfl) (by kernel_rfl) (fun _ _ _ h => h) (Or.inr ⟨by rfl, rfl⟩) hHeld ?_
          simp only [Act.put, List.setIfInBounds_toArray, List.set_cons_zero, List.set_cons_succ]
          refine AnyU.take (i := 24) (v := undef) rfl (by kernel_rfl) (by kernel_rfl) (by kernel_rfl) (by kernel_rfl) (fun _ _ _ h => h) (Or.inr ⟨by rfl, rfl⟩) hHeld ?_
          simp only [Act.put, List.setIfInBounds_toArray, List.set_cons_zero, List.set_cons_succ]
          refine AnyU.take (i := 25) (v := undef) rfl (by kernel_rfl) (by kernel_rfl) (by kernel_rfl) (by kernel_rfl) (fun _ _ _ h => h) (Or.inr ⟨by rfl, rfl⟩) hHeld ?_
          simp only [Act.put, List.setIfInBounds_toArray, List.set_cons_zero, List.set_cons_succ]
          refine AnyU.take (i := 26) (v := undef) rfl (by kernel_rfl) (by kernel_rfl) (by kernel_rfl) (by kernel_rfl) (fun _ _ _ h => h) (Or.inr ⟨by rfl, rfl⟩) hHeld ?_
          simp only [Act.put, List.setIfInBounds_toArray, List.set_cons_zero, List.set_cons_succ]
          refine AnyU.take (i := 27) (v := undef) rfl (by kernel_rfl) (by kernel_rfl) (by kernel_rfl) (by kernel_rfl) (fun _ _ _ h => h) (Or.inr ⟨by rfl, rfl⟩) hHeld ?_
          simp only [Act.put, List.setIfInBounds_toArray, List.set_cons_zero, List.set_cons_succ]
          refine AnyU.take (i := 28) (v := undef) rfl (by kernel_rfl) (by kernel_rfl) (by kernel_rfl) (by kernel_rfl) (fun _ _ _ h => h) (Or.inr ⟨by rfl, rfl⟩) hHeld ?_
          simp only [Act.put, List.setIfInBounds_toArray, List.set_cons_zero, List.set_cons_succ]
          refine AnyU.take (i := 29) (v := undef) rfl (by kernel_rfl) (by kernel_rfl) (by kernel_rfl) (by kernel_rfl) (fun _ _ _ h => h) (Or.inr ⟨by rfl, rfl⟩) hHeld ?_
          simp only [Act.put, List.setIfInBounds_toArray, List.set_cons_zero, List.set_cons_succ]
          refine AnyU.take (i := 30) (v := ?v259) rfl (by kernel_rfl) (by kernel_rfl) (by kernel_rfl) (by kernel_rfl) (fun _ _ _ h => h) (Or.inl ⟨by rfl, ?hy259⟩) hHeld ?r259
          case hy259 => (intro w hSw; (try dsimp only at hSw); go_simp <;> with_reducible rfl)
          simp only [Act.put, List.setIfInBounds_toArray, List.set_cons_zero, List.set_cons_succ]
          refine AnyU.over (by kernel_rfl) ?_ _
          go_wp2_with fail
          go_roundw
          case rel => exact ⟨t + 1, pre', by omega, by go_num, by first | exact HON8.out.front | exact (HON8.out.draws HJ.out _).front, by rw [HPX.out, HT.out]⟩
          case measure => simp [intOf]; omega
      · have ht1 : ((lessG g f : Int) == 0) = false := by
          have : lessG g f ≠ 0 := by simpa [withinB] using hwi
          simpa using this
        have hHB : hitB (bestW (ls.drop (k + 1))) WV f (g, co) = false := by
          unfold hitB
          rw [Bool.eq_false_iff.2 hwi, Bool.false_and]
        rw [hHB, if_neg (by decide), List.append_nil] at HT
        clear hwi hHB
        go_quiet (fail)
        go_wp2_with fail
        go_roundw
        case rel => exact ⟨t + 1, pre', by omega, by go_num, (HPUT.out.draws HJ.out _).front, by rw [HPX.out, HT.out]⟩
        case measure => simp [intOf]; omega
    · obtain rfl : t = l'.length := by omega
      rw [List.take_length] at HPX
      obtain ⟨gb, cap, v0, hcv, hgS, hg0, hfr, hput⟩ := HN.out.put HJ.out (by rw [HHH.out]; exact HLE.out)
      injection hcv with hcv _ hcap
      subst hcv hcap
      rw [HHH.out] at hg0 hfr hput
      have HPUT := hide (hput (-1))
      have d0 := HN.out.env.cells.1
      clear hput
      go_upto_region 12 with fail
      generalize wr.setCell ⟨gb, k, none⟩ (.int .i64 (-1)) = w7 at *
      clear d0 hg0 hfr
      obtain ⟨_, _, e2, _, _, e5⟩ := HPUT.out.env.cells
      have HIA := hide (HW.out (k + 1) f w7 HLE.out HF.out HPUT.out.env.board)
      obtain ⟨v, hvv⟩ : ∃ v, v = bestW (ls.drop (k + 1)) f := ⟨_, rfl⟩
      rw [← hvv] at HCH HIA
      clear hvv
      by_cases hse : v = WV
      · have hs1 : (v != WV) = false := by simpa using hse
        rw [if_pos hse] at HCH
        have HPS : Hid (pre'.map Prod.snd ++ (choicesW (ls.drop (k + 1)) f).map (fun d => (head ++ [(-1 : Int)]) ++ d) = pre.map Prod.snd ++ (choicesW (ls.drop k) f).map (fun d => head ++ d)) := hide (by
          rw [HPX.out, HCH.out, List.map_append, map_cons_head, List.append_assoc])
        have HIC : Hid (∀ X : World, Env W0.heap.size B cc yc bc xc oc l bp m n (some ⟨bb, bo, none⟩) c hs ls (.slice (some ⟨gb, 0, none⟩) ls.length c1) (head ++ [(-1 : Int)]) X → J pre' X → OutP p W0 X → Calls Try.prog 44 #[.int .i64 ((k : Int) + 1), .int .u32 (f : Int), .pointer (some ⟨cc, 0, none⟩), .pointer (some ⟨yc, 0, none⟩), .pointer (some ⟨bc, 0, none⟩), .pointer (some ⟨xc, 0, none⟩), .pointer (some ⟨oc, 0, none⟩)] X (OnPost p all J Jx W0.heap.size B cc yc bc xc oc l bp m n (some ⟨bb, bo, none⟩) c hs ls (.slice (some ⟨gb, 0, none⟩) ls.length c1) (head ++ [(-1 : Int)]) pre' (k + 1) f X)) := hide (fun X h1 h2 h3 =>
          HIH.out f (head ++ [(-1 : Int)]) pre' X HF.out (by rw [List.length_append, HHH.out]; rfl) h1 h2 h3 (by rw [HPS.out]; exact HPR.out))
        clear hse
        go_wp2_with (first | (go_at_call 30; refine (HIA.out).mono ?_; rintro e w8 ⟨rfl, hb8, hg8⟩; have HON8 := hide (HPUT.out.memo HJ.out hb8 hg8); have f2 := HON8.out.env.cells.2.2.1; have f5 := HON8.out.env.cells.2.2.2.2.2; clear hb8 hg8) | (go_at_call 44; refine (HIC.out w8 HON8.out.env HON8.out.j HON8.out.o0).mono ?_; rintro e w9 ⟨ho9, hE9, b9, pre9, rfl, hb9⟩; have HO9 := hide ho9; have HE9 := hide hE9; have HB9 := hide hb9; clear ho9 hE9 hb9))
        go_ret
        rcases HB9.out with ⟨rfl, h1, h2⟩ | ⟨rfl, h1, h2⟩
        · have hfin := HON8.out.inner (J' := J) HO9.out HE9.out h2
          exact ⟨hfin.o1, hfin.env.front, true, pre9, rfl, .inl ⟨rfl, by rw [h1, HPS.out], h2⟩⟩
        · have hfin := HON8.out.inner (J' := Jx) HO9.out HE9.out h2
          exact ⟨hfin.o1, hfin.env.front, false, pre9, rfl, .inr ⟨rfl, h1, h2⟩⟩
      · have hs1 : (v != WV) = true := by simpa using hse
        rw [if_neg hse, List.append_nil] at HCH
        clear hse
        go_wp2_with (go_at_call 30; refine (HIA.out).mono ?_; rintro e w8 ⟨rfl, hb8, hg8⟩; have HON8 := hide (HPUT.out.memo HJ.out hb8 hg8); have f2 := HON8.out.env.cells.2.2.1; have f5 := HON8.out.env.cells.2.2.2.2.2; clear hb8 hg8)
        go_ret
        exact ⟨HON8.out.o1, HON8.out.env.front, true, pre', rfl, .inl ⟨rfl, by rw [HPX.out, HCH.out], HON8.out.j⟩⟩
end Go.Proofs.Ytkjmpenaifhfjaa
