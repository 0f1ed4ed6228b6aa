/- The walk of gavelref15's own going over: (*walk).on where a choice goes on. -/
import Derived.Test.YtkjmpenaifhfjaaAllR
namespace Go.Proofs.Ytkjmpenaifhfjaa
open Go.RowKit Go.Maps
open Go.ChangeMaps Go.WideMaps

theorem reads_one {W : World} {b : Nat} {u : Value} {t : TypeId} (h : W.heap[b]? = some (.cells #[u] t (0, 0))) : Reads W W.heap.size 1 (some ⟨b, 0, none⟩) 1 [u] :=
  ⟨rfl, fun _ => ⟨b, 0, rfl, lt_of_block h, fun j x hx => by
    match j, hx with
    | 0, hx => simp at hx; subst hx; exact cell_of_row W b 0 _ _ (0, 0) h
    | j + 1, hx => simp at hx⟩⟩
theorem take_more {α : Type} (X Y : List α) (m : Nat) : (X.take m ++ Y).take m = (X ++ Y).take m := by
  rw [List.take_append, List.take_append, List.take_take, Nat.min_self, List.length_take]
  by_cases h : m ≤ X.length
  · rw [Nat.min_eq_left h, Nat.sub_self, show m - X.length = 0 from by omega]
  · rw [Nat.min_eq_right (by omega)]
theorem map_head (head : List Int) (z : Int) (L : List (List Int)) : (L.map (fun d => z :: d)).map (fun d => head ++ d) = L.map (fun d => (head ++ [z]) ++ d) := by
  rw [List.map_map]
  apply List.map_congr_left
  intro d _
  simp
/-- What the reference's inner call does at a place. -/
def OnRA (q : Nat) (n : Int) (A : Option Addr) (c : Nat) (hs : List Hdr) (ls : List (List Offer)) (H sets most : Nat) (k : Nat) : Prop :=
  ∀ (f : Nat) (head : List Int) (hb : Nat) (hv v : Value) (vs : List Value) (out : List (List Int)) (W : World), f < sets → RS q n A c hs ls H sets most v vs out W → W.ownsRow hb 3 1 hv head.length (head.map (Value.int .i64)) → head.length = k → out.length ≤ most →
    Calls Try.prog 40 #[.pointer (some ⟨q, 0, none⟩), .int .i64 (k : Int), .int .i64 (f : Int), hv] W (OnR q n A c hs ls H sets most k f head v out W)

set_option maxRecDepth 100000 in
set_option maxHeartbeats 8000000 in
theorem onr_node (q nn : Nat) (A : Option Addr) (c : Nat) (hs : List Hdr) (ls : List (List Offer)) (H sets most : Nat) (hI : GoodI (nn : Int) ls) (hsets : sets = 2 ^ nn) (hmo : most ≤ 1000) (k : Nat) (hk : k < ls.length) (ih : OnRA q nn A c hs ls H sets most (k + 1)) (f : Nat) (head : List Int) (hb : Nat) (hv v : Value) (vs : List Value) (out : List (List Int)) (W : World)
    (hf : f < sets) (h : RS q nn A c hs ls H sets most v vs out W) (hhd : W.ownsRow hb 3 1 hv head.length (head.map (Value.int .i64))) (hhl : head.length = k) (hm : out.length < most) :
    Calls Try.prog 40 #[.pointer (some ⟨q, 0, none⟩), .int .i64 (k : Int), .int .i64 (f : Int), hv] W (OnR q nn A c hs ls H sets most k f head v out W) := by
  obtain ⟨c0, c1, c2, c3, c4, _⟩ := h.cells
  obtain ⟨A4, k4, rfl, _⟩ := own_sh h.out.hdr
  obtain ⟨A5, k5, rfl, _⟩ := own_sh hhd
  have hp2 : sets ≤ 1024 := by
    rw [hsets]
    have := pow_small (nn : Int) hI.hi
    simpa using this
  have hll : ls.length ≤ 32 := hI.few
  obtain ⟨⟨a1, a2⟩, l, ha, hlx, _, _⟩ := h.buys.get hk
  obtain ⟨bb, bo, hAA, hbB, hat⟩ := h.buys.at_ (by omega)
  have HLB := hide (hI.good l (List.mem_of_getElem? hlx))
  have hlen : (l.length : Int) ≤ 8 := by have := hI.short l (List.mem_of_getElem? hlx); omega
  have HTOP : Hid (∀ o ∈ l, o.1 < sets) := hide (fun o ho => by rw [hsets]; have := hI.top l (List.mem_of_getElem? hlx) o ho; simpa using this)
  have HCELL : Hid (∀ X, Buys X q A hs ls → X.cell? ⟨bb, bo + k, none⟩ = some (.slice a1 l.length a2)) := hide (fun X hX => by
    obtain ⟨b', o', e, _, h'⟩ := hX.at_ (by omega)
    rw [hAA] at e
    injection e with e
    injection e with e1 e2 e3
    subst e1 e2
    exact h' k _ l ha hlx)
  have HROW : Hid (∀ X, Buys X q A hs ls → Offs X q a1 l) := hide (fun X hX => (hX.row k _ l ha hlx).1)
  subst hAA
  have HCH := hide (choicesW_at hlx f)
  have HBD : Hid (∀ g, 0 ≤ bestW (ls.drop (k + 1)) g ∧ bestW (ls.drop (k + 1)) g ≤ 31 * 1099511627776) := hide (fun g => by
    have := bestW_bd _ (hI.good.drop (k + 1)) g
    simp only [List.length_drop] at this
    omega)
  have HS := hide h
  have HHD := hide hhd
  have HIH := hide ih
  have HHL := hide hhl
  have HF := hide hf
  have hge : decide ((most : Int) ≤ (out.length : Int)) = false := decide_eq_false (by omega)
  have hge2 : decide (most ≤ out.length) = false := decide_eq_false (by omega)
  have hlt : ¬ most ≤ out.length := by omega
  have hke : ((k : Int) == (ls.length : Int)) = false := by rw [beq_eq_false_iff_ne]; omega
  have hkN : (k : Int) < (ls.length : Int) := by omega
  have hkM : (k : Int) < (ls.length : Int) + 1 := by omega
  have hkM1 : (k : Int) + 1 < (ls.length : Int) + 1 := by omega
  have hk1 : IntKind.i64.wrap ((k : Int) + 1) = (k : Int) + 1 := Go.IntWalk.i64_in _ (by omega)
  have hk0 : (0 : Int) ≤ (k : Int) + 1 := by omega
  have hk2 : ((k : Int) + 1).toNat = k + 1 := by omega
  have HMO := hide hm
  have HKL := hide hk
  have hfs : (f : Int) < (sets : Int) := by omega
  have hf32 : f < 4294967296 := by omega
  have HSZ : Hid (sets ≤ 1024) := hide hp2
  have G1 : Hid (∀ u ∈ head.map (Value.int .i64), u.oneCell' = true) := hide (fun u hu => by obtain ⟨z, _, rfl⟩ := List.mem_map.1 hu; rfl)
  have G2 : Hid (∀ z : Int, ∀ x ∈ [Value.int .i64 z], x.oneCell' = true) := hide (fun z x hx => by simp at hx; subst hx; rfl)
  have G5 : Hid (0 + head.length ≤ maxLen) := hide (by unfold maxLen; omega)
  have G6 : Hid ((0 + head.length) * 8 ≤ 140737488355328) := hide (by omega)
  have G7 : Hid (head.length + 1 ≤ maxLen) := hide (by unfold maxLen; omega)
  have G8 : Hid ((head.length + 1) * 8 ≤ 140737488355328) := hide (by omega)
  obtain ⟨rest, hrest⟩ : ∃ rest, rest = bestW (ls.drop (k + 1)) := ⟨_, rfl⟩
  obtain ⟨left, hleft⟩ : ∃ left, left = bestW (ls.drop k) f := ⟨_, rfl⟩
  have HREST := hide hrest
  have HTB : Hid (∀ X, TabQ X q H sets ls → ∃ g1 g0, g1 < q ∧ g0 < q ∧ H < q ∧ X.cell? ⟨H, k + 1, none⟩ = some (.slice (some ⟨g1, 0, none⟩) sets sets) ∧ (∀ j, j < sets → X.cell? ⟨g1, j, none⟩ = some (.int .i64 (rest j))) ∧ X.cell? ⟨H, k, none⟩ = some (.slice (some ⟨g0, 0, none⟩) sets sets) ∧ X.cell? ⟨g0, f, none⟩ = some (.int .i64 left)) := hide (fun X hX => by
    obtain ⟨hH, hall⟩ := hX
    obtain ⟨g1, u1, u2, u3⟩ := hall (k + 1) (by omega)
    obtain ⟨g0, v1, v2, v3⟩ := hall k (by omega)
    exact ⟨g1, g0, u1, v1, hH, u2, by rw [hrest]; exact u3, v2, by rw [hleft]; exact v3 f hf⟩)
  rw [← hrest] at HBD HCH
  rw [← hleft] at HCH
  clear h hhd ih hhl hm hI hat ha hlx hf hsets hmo hrest hleft hk
  unfold OnRA at HIH
  go_enter Try.func40, Try.ntmps40
  go_wp2_with fail
  go_quiet (fail)
  go_wp2_with fail
  have HS0 := hide (HS.out.below (below_drewN (Below.refl _ _) nq))
  have HT0 : Hid (Step q (.slice A4 out.length k4) W (.slice A4 out.length k4) (W.drewN nq)) := hide (Step.below (below_drewN (Below.refl _ _) nq) (Nat.le_of_lt HS.out.lt))
  generalize W.drewN nq = w1 at *
  clear c0 c1 c2 c3 c4
  go_loopw [8] (fun jv wr => ∃ (t : Nat) (v' : Value) (vs' : List Value) (out' : List (List Int)), t ≤ l.length ∧ jv = .int .i64 t ∧ RS q nn (some ⟨bb, bo, none⟩) c hs ls H sets most v' vs' out' wr ∧ Step q (.slice A4 out.length k4) W v' wr ∧
    out' = (out ++ (hitsW (ls.drop (k + 1)) left f (choicesW (ls.drop (k + 1))) 0 (l.take t)).map (fun d => head ++ d)).take most) (fun jv _ => l.length - (intOf jv).toNat)
  case atStart => exact ⟨0, _, vs, out, Nat.zero_le _, rfl, HS0.out, HT0.out, by simp [hitsW]; rw [List.take_of_length_le (Nat.le_of_lt HMO.out)]⟩
  case round =>
    rename World => wr
    obtain ⟨t, v', vs', out', ht, rfl, hrs, hst, hout⟩ := hrel
    have HR := hide hrs
    have HST := hide hst
    have HOUT := hide hout
    have HHR := hide (HS.out.keeps hst HHD.out)
    obtain ⟨c0, c1, c2, _, _, _⟩ := hrs.cells
    have hq := hrs.lt
    have e0 := HCELL.out wr hrs.buys
    clear hrs hst hout
    by_cases htl : t < l.length
    · obtain ⟨ob, oo, hA1, hobB, hoc⟩ := (HROW.out wr HR.out.buys).at_ (by omega)
      obtain ⟨x, hx⟩ : ∃ x, l[t]? = some x := ⟨l[t], List.getElem?_eq_getElem htl⟩
      obtain ⟨q0, q1⟩ := hoc t x hx
      have hgx := HLB.out x (List.mem_of_getElem? hx)
      have htop := HTOP.out x (List.mem_of_getElem? hx)
      have HT := hide (hitsW_take (ls := ls.drop (k + 1)) (W := left) (f := f) (rec := choicesW (ls.drop (k + 1))) hx)
      obtain ⟨g, co⟩ := x
      obtain ⟨_, hg32, hco1, hco2⟩ := hgx
      simp only [offV] at q0 q1 hg32 hco1 hco2 htop
      subst hA1
      obtain ⟨g1, g0, u1, u0, hH, t1, t2, t3, t4⟩ := HTB.out wr HR.out.tab
      have r2 : ∀ o, (wr.alloc o).cell? ⟨q, 2, none⟩ = some (.slice (some ⟨H, 0, none⟩) (ls.length + 1) (ls.length + 1)) := fun o => (World.cell?_alloc_lt wr o ⟨q, 2, none⟩ hq).trans c2
      have s1 : ∀ o, (wr.alloc o).cell? ⟨H, k + 1, none⟩ = some (.slice (some ⟨g1, 0, none⟩) sets sets) := fun o => (World.cell?_alloc_lt wr o ⟨H, k + 1, none⟩ (by show H < _; omega)).trans t1
      have s3 : ∀ o, (wr.alloc o).cell? ⟨H, k, none⟩ = some (.slice (some ⟨g0, 0, none⟩) sets sets) := fun o => (World.cell?_alloc_lt wr o ⟨H, k, none⟩ (by show H < _; omega)).trans t3
      have s4 : ∀ o, (wr.alloc o).cell? ⟨g0, f, none⟩ = some (.int .i64 left) := fun o => (World.cell?_alloc_lt wr o ⟨g0, f, none⟩ (by show g0 < _; omega)).trans t4
      have hx1 := i64_and_n g f (by omega) (by omega)
      have hgw : IntKind.i64.wrap (g : Int) = (g : Int) := Go.IntWalk.i64_in _ (by omega)
      have htli : (t : Int) < (l.length : Int) := by omega
      have HNB : Hid (RS q nn (some ⟨bb, bo, none⟩) c hs ls H sets most v' vs' out' (wr.alloc (.cells #[.int .u32 (g : Int), .int .i64 co] 51)) ∧ Step q (.slice A4 out.length k4) W v' (wr.alloc (.cells #[.int .u32 (g : Int), .int .i64 co] 51))) := hide
        ⟨HR.out.below ((Below.refl _ _).alloc (Nat.le_refl _) _), HST.out.trans (Step.below ((Below.refl _ _).alloc (Nat.le_refl _) _) (Nat.le_of_lt hq))⟩
      clear hoc hx t1 t3 t4
      by_cases hwi : g &&& f = g
      · have hgf := within_le g f hwi
        have ht1 : (((g &&& f : Nat) : Int) == (g : Int)) = true := by rw [hwi]; simp
        have hv := HBD.out (f - g)
        have s2 : ∀ o, (wr.alloc o).cell? ⟨g1, f - g, none⟩ = some (.int .i64 (rest (f - g))) := fun o => (World.cell?_alloc_lt wr o ⟨g1, f - g, none⟩ (by show g1 < _; omega)).trans (t2 (f - g) (by omega))
        have HHIT : Hid (hitB (bestW (ls.drop (k + 1))) left f (g, co) = (co + rest (f - g) == left)) := hide (by
          unfold hitB
          rw [← HREST.out, withinB_and g f (by omega) (by omega), lessG_sub g f (by omega) (by omega) hwi]
          simp [hwi])
        have HLS : Hid (lessG f g = f - g) := hide (lessG_sub g f (by omega) (by omega) hwi)
        have n2 : IntKind.i64.wrap ((f : Int) - (g : Int)) = (f : Int) - (g : Int) := Go.IntWalk.i64_in _ (by omega)
        have n3 : ((f : Int) - (g : Int)).toNat = f - g := by omega
        have n4 : (0 : Int) ≤ (f : Int) - (g : Int) := by omega
        have n5 : (f : Int) - (g : Int) < (sets : Int) := by omega
        have HFG : Hid ((f : Int) - (g : Int) = ((f - g : Nat) : Int) ∧ f - g < sets) := hide ⟨by omega, by omega⟩
        clear t2
        generalize rest (f - g) = rv at *
        have n7 : IntKind.i64.wrap (co + rv) = co + rv := Go.IntWalk.i64_in _ (by omega)
        clear hwi
        by_cases hhit : co + rv = left
        · have hh : (co + rv == left) = true := by simp [hhit]
          rw [HHIT.out, hh, if_pos rfl, HLS.out] at HT
          clear hhit
          go_wp2_with fail
          go_quiet (fail)
          go_wp2_with fail
          clear r2 s1 s2 s3 s4 q0 q1 e0 c0 c1 c2
          have HO0 : Hid ((wr.alloc (.cells #[.int .u32 (g : Int), .int .i64 co] 51)).heap[wr.heap.size]? = some (.cells #[.int .u32 (g : Int), .int .i64 co] 51 (0, 0))) := hide (heap_alloc_new wr _)
          have HB3 : Hid (Below (wr.alloc (.cells #[.int .u32 (g : Int), .int .i64 co] 51)).heap.size (wr.alloc (.cells #[.int .u32 (g : Int), .int .i64 co] 51)) ((wr.alloc (.cells #[.int .u32 (g : Int), .int .i64 co] 51)).drewN nq).drew) := hide (below_drewN (Below.refl _ _) _).drew
          have HH2 := hide (own_below HHR.out ((Below.refl _ _).alloc (Nat.le_refl _) (.cells #[.int .u32 (g : Int), .int .i64 co] 51)) (Nat.le_refl _))
          have HR3 := hide (HNB.out.1.below HB3.out)
          have HT3 := hide (HNB.out.2.trans (Step.below HB3.out (Nat.le_of_lt HNB.out.1.lt)))
          have HH3 := hide (own_below HH2.out HB3.out (Nat.le_refl _))
          have HO3 := hide ((HB3.out.block _ (lt_of_block HO0.out)).trans HO0.out)
          have hS0 : ((wr.alloc (.cells #[.int .u32 (g : Int), .int .i64 co] 51)).drewN nq).drew.cell? ⟨wr.heap.size, 0, none⟩ = some (.int .u32 (g : Int)) := cell_of_row _ wr.heap.size 0 _ _ (0, 0) HO3.out
          refine wp_region_U 14 (fun X => X.cell? ⟨wr.heap.size, 0, none⟩ = some (.int .u32 (g : Int))) rfl hS0 (fun hHeld => ?_)
          generalize hw3 : ((wr.alloc (.cells #[.int .u32 (g : Int), .int .i64 co] 51)).drewN nq).drew = w3 at *
          clear hw3 HB3 HO0 HH2 HNB
          generalize wr.heap.size = b at *
          refine AnyU.take (i := 0) (v := ?v1) rfl (by kernel_rfl) (by kernel_rfl) (by kernel_rfl) (by kernel_rfl) (fun _ _ _ h => h) (Or.inl ⟨by rfl, ?hy1⟩) hHeld ?r1
          case hy1 => (intro w hSw; (try dsimp only at hSw); go_simp <;> with_reducible rfl)
          simp only [Act.put, List.setIfInBounds_toArray, List.set_cons_zero, List.set_cons_succ]
          refine AnyU.take (i := 1) (v := ?v2) rfl (by kernel_rfl) (by kernel_rfl) (by kernel_rfl) (by kernel_rfl) (fun _ _ _ h => h) (Or.inl ⟨by rfl, ?hy2⟩) hHeld ?r2
          case hy2 => (intro w hSw; (try dsimp only at hSw); go_simp <;> with_reducible rfl)
          simp only [Act.put, List.setIfInBounds_toArray, List.set_cons_zero, List.set_cons_succ]
          refine AnyU.take (i := 2) (v := ?v3) rfl (by kernel_rfl) (by kernel_rfl) (by kernel_rfl) (by kernel_rfl) (fun _ _ _ h => h) (Or.inl ⟨by rfl, ?hy3⟩) hHeld ?r3
          case hy3 => (intro w hSw; (try dsimp only at hSw); go_simp <;> with_reducible rfl)
          simp only [Act.put, List.setIfInBounds_toArray, List.set_cons_zero, List.set_cons_succ]
          refine AnyU.take (i := 3) (v := ?v4) rfl (by kernel_rfl) (by kernel_rfl) (by kernel_rfl) (by kernel_rfl) (fun _ _ _ h => h) (Or.inl ⟨by rfl, ?hy4⟩) hHeld ?r4
          case hy4 => (intro w hSw; (try dsimp only at hSw); go_simp <;> with_reducible rfl)
          simp only [Act.put, List.setIfInBounds_toArray, List.set_cons_zero, List.set_cons_succ]
          refine AnyU.take (i := 4) (v := ?v5) rfl (by kernel_rfl) (by kernel_rfl) (by kernel_rfl) (by kernel_rfl) (fun _ _ _ h => h) (Or.inl ⟨by rfl, ?hy5⟩) hHeld ?r5
          case hy5 => (intro w hSw; (try dsimp only at hSw); go_simp <;> with_reducible rfl)
          simp only [Act.put, List.setIfInBounds_toArray, List.set_cons_zero, List.set_cons_succ]
          refine AnyU.take (i := 5) (v := ?v6) rfl (by kernel_rfl) (by kernel_rfl) (by kernel_rfl) (by kernel_rfl) (fun _ _ _ h => h) (Or.inl ⟨by rfl, ?hy6⟩) hHeld ?r6
          case hy6 => (intro w hSw; (try dsimp only at hSw); go_simp <;> with_reducible rfl)
          simp only [Act.put, List.setIfInBounds_toArray, List.set_cons_zero, List.set_cons_succ]
          refine AnyU.take (i := 6) (v := ?v7) rfl (by kernel_rfl) (by kernel_rfl) (by kernel_rfl) (by kernel_rfl) (fun _ _ _ h => h) (Or.inl ⟨by rfl, ?hy7⟩) hHeld ?r7
          case hy7 => (intro w hSw; (try dsimp only at hSw); go_simp <;> with_reducible rfl)
          simp only [Act.put, List.setIfInBounds_toArray, List.set_cons_zero, List.set_cons_succ]
          refine AnyU.take (i := 7) (v := ?v8) rfl (by kernel_rfl) (by kernel_rfl) (by kernel_rfl) (by kernel_rfl) (fun _ _ _ h => h) (Or.inl ⟨by rfl, ?hy8⟩) hHeld ?r8
          case hy8 => (intro w hSw; (try dsimp only at hSw); go_simp <;> with_reducible rfl)
          simp only [Act.put, List.setIfInBounds_toArray, List.set_cons_zero, List.set_cons_succ]
          refine AnyU.take (i := 8) (v := ?v9) rfl (by kernel_rfl) (by kernel_rfl) (by kernel_rfl) (by kernel_rfl) (fun _ _ _ h => h) (Or.inl ⟨by rfl, ?hy9⟩) hHeld ?r9
          case hy9 => (intro w hSw; (try dsimp only at hSw); go_simp <;> with_reducible rfl)
          simp only [Act.put, List.setIfInBounds_toArray, List.set_cons_zero, List.set_cons_succ]
          refine AnyU.take (i := 10) (v := ?v10) rfl (by kernel_rfl) (by kernel_rfl) (by kernel_rfl) (by kernel_rfl) (fun _ _ _ h => h) (Or.inl ⟨by rfl, ?hy10⟩) hHeld ?r10
          case hy10 => (intro w hSw; (try dsimp only at hSw); go_simp <;> with_reducible rfl)
          simp only [Act.put, List.setIfInBounds_toArray, List.set_cons_zero, List.set_cons_succ]
          refine AnyU.next (js := [9, 11]) (by kernel_rfl) (by simp) (NextU.cons rfl (fun K hK => ?_) (NextU.cons rfl (fun K hK => ?_) NextU.nil))
          · have HNI : Hid (w3.ownsRow w3.heap.size 3 1 (.slice none 0 0) 0 []) := hide (World.ownsRow_nil _ _ _ _)
            have HRD : Hid (Reads w3 w3.heap.size 1 A5 head.length (head.map (Value.int .i64))) := hide (Reads.of_own HH3.out)
            refine step_append_any rfl (.const (.slice none 0 0)) (.tmp 111) 33 rfl w3.heap.size 3 (.int .i64 0) 1 8 infoI Try.underlying33 rfl (by decide) _ 0 [] rfl HNI.out w3.heap.size A5 head.length k5 _ rfl HRD.out G1.out G5.out G6.out (Nat.le_refl _) ?_
            intro v1 w4 hown1 hg1 _
            rw [Nat.zero_add, List.nil_append] at hown1
            have hb4 : Below w3.heap.size w3 w4 := ⟨hg1.os, hg1.tape, hg1.output, hg1.size, fun k hk => hg1.block k hk (by intro e; cases e)⟩
            have HB4 := hide hb4
            have HW4 := hide (own_base hown1 (Nat.zero_le _))
            have HV4 : Hid (∀ i, v1.ownBlock = some i → w3.heap.size ≤ i) := hide (fun i hi => (hown1.lt i hi).1)
            obtain ⟨A6, k6, hv6, _⟩ := own_sh hown1
            subst hv6
            have hS4 := (hb4.cell (p := ⟨b, 0, none⟩) (lt_of_cell hS0)).trans hS0
            clear hown1 hg1 hb4
            refine hK.out _ _ (fun _ => hS4) (fun hHeld => ?_)
            replace hHeld := hHeld (by decide)
            try simp only [Act.put, List.setIfInBounds_toArray, List.set_cons_zero, List.set_cons_succ]
            refine AnyU.next (js := [11]) (by kernel_rfl) (by simp) (NextU.cons rfl (fun K hK => ?_) NextU.nil)
            go_simp
            have HB5 : Hid (Below w3.heap.size w3 (w4.alloc (.cells #[.int .i64 (t : Int)] 3))) := hide (HB4.out.alloc HB4.out.size _)
            have HW5 := hide (HW4.out.alloc (.cells #[.int .i64 (t : Int)] 3))
            have HN5 : Hid ((w4.alloc (.cells #[.int .i64 (t : Int)] 3)).heap[w4.heap.size]? = some (.cells #[.int .i64 (t : Int)] 3 (0, 0))) := hide (heap_alloc_new w4 _)
            obtain ⟨nb, hnb⟩ : ∃ nb, nb = w4.heap.size := ⟨_, rfl⟩
            have hS5 := (HB5.out.cell (p := ⟨b, 0, none⟩) (lt_of_cell hS0)).trans hS0
            refine hK.out _ _ (fun _ => hS5) (fun hHeld => ?_)
            replace hHeld := hHeld (by decide)
            try simp only [Act.put, List.setIfInBounds_toArray, List.set_cons_zero, List.set_cons_succ]
            rw [← hnb] at HN5 ⊢
            generalize w4.alloc (.cells #[.int .i64 (t : Int)] 3) = w5 at *
            clear hnb HB4 HW4 hS4
            have HRN := hide (reads_one HN5.out)
            have HGN := hide (G2.out (t : Int))
            refine AnyU.next (js := [12]) (by kernel_rfl) (by simp) (NextU.cons rfl (fun K hK => ?_) NextU.nil)
            refine step_append_any rfl (.tmp 112) (.tmp 114) 33 rfl 0 3 (.int .i64 0) 1 8 infoI Try.underlying33 rfl (by decide) _ _ _ rfl HW5.out w5.heap.size (some ⟨nb, 0, none⟩) 1 1 _ rfl HRN.out HGN.out G7.out G8.out (Nat.zero_le _) ?_
            intro v2 w6 hown2 hg2 hat2
            have hb6 : Below w3.heap.size w3 w6 := HB5.out.grown hg2 HB5.out.size (fun i hi => HV4.out i hi)
            have HB6 := hide hb6
            have HR6 := hide (HR3.out.below hb6)
            have HT6 := hide (HT3.out.trans (Step.below hb6 (Nat.le_of_lt HR3.out.lt)))
            have HO6 := hide ((hb6.block _ (lt_of_block HO3.out)).trans HO3.out)
            have HW6 : Hid (w6.ownsRow 0 3 1 v2 (head ++ [(t : Int)]).length ((head ++ [(t : Int)]).map (Value.int .i64))) := hide (by rw [List.length_append, List.map_append]; exact hown2)
            have hS6 := (hb6.cell (p := ⟨b, 0, none⟩) (lt_of_cell hS0)).trans hS0
            clear hown2 hg2 hat2 hb6
            refine hK.out _ _ (fun _ => hS6) (fun hHeld => ?_)
            replace hHeld := hHeld (by decide)
            try simp only [Act.put, List.setIfInBounds_toArray, List.set_cons_zero, List.set_cons_succ]
            have HC := hide (HIH.out (f - g) (head ++ [(t : Int)]) 0 v2 v' vs' out' w6 HFG.out.2 HR6.out HW6.out (by rw [List.length_append, HHL.out]; rfl) (by rw [HOUT.out, List.length_take]; exact Nat.min_le_left _ _))
            rw [← HFG.out.1] at HC
            refine AnyU.next (js := [13]) (by kernel_rfl) (by simp) (NextU.cons rfl (fun K hK => ?_) NextU.nil)
            go_simp
            refine (HC.out).mono ?_
            rintro e w9 ⟨rfl, v9, vs9, hr9, hs9⟩
            have HR9 := hide hr9
            have HT9 := hide (HT6.out.trans hs9)
            have hq9 := HR6.out.loc hs9 HO6.out (by decide) (by decide)
            have hS9 : w9.cell? ⟨b, 0, none⟩ = some (.int .u32 (g : Int)) := cell_of_row w9 b 0 _ _ (0, 0) hq9
            clear hr9 hs9 hq9 hS6 hS5 hS0 hHeld
            go_wp2_with fail
            refine hK.out _ _ (fun _ => hS9) (fun hHeld => ?_)
            replace hHeld := hHeld (by decide)
            try simp only [Act.put, List.setIfInBounds_toArray, List.set_cons_zero, List.set_cons_succ]
            refine AnyU.over (by kernel_rfl) ?_ _
            clear hHeld hS9
            go_wp2_with fail
            go_roundw
            case rel => exact ⟨t + 1, v9, vs9, _, by omega, by go_num, HR9.out, HT9.out, by rw [HT.out, HOUT.out, List.map_append, map_head, ← List.append_assoc, take_more]⟩
            case measure => simp [intOf]; omega
          · go_simp
            have HB4 : Hid (Below w3.heap.size w3 (w3.alloc (.cells #[.int .i64 (t : Int)] 3))) := hide ((Below.refl _ _).alloc (Nat.le_refl _) _)
            have HN4 : Hid ((w3.alloc (.cells #[.int .i64 (t : Int)] 3)).heap[w3.heap.size]? = some (.cells #[.int .i64 (t : Int)] 3 (0, 0))) := hide (heap_alloc_new w3 _)
            obtain ⟨nb, hnb⟩ : ∃ nb, nb = w3.heap.size := ⟨_, rfl⟩
            have hS4 := (HB4.out.cell (p := ⟨b, 0, none⟩) (lt_of_cell hS0)).trans hS0
            refine hK.out _ _ (fun _ => hS4) (fun hHeld => ?_)
            replace hHeld := hHeld (by decide)
            try simp only [Act.put, List.setIfInBounds_toArray, List.set_cons_zero, List.set_cons_succ]
            rw [← hnb] at HN4 ⊢
            generalize w3.alloc (.cells #[.int .i64 (t : Int)] 3) = w4 at *
            have HH4 := hide (own_below HH3.out HB4.out (Nat.le_refl _))
            clear hnb
            have HNI : Hid (w4.ownsRow w4.heap.size 3 1 (.slice none 0 0) 0 []) := hide (World.ownsRow_nil _ _ _ _)
            have HRD : Hid (Reads w4 w4.heap.size 1 A5 head.length (head.map (Value.int .i64))) := hide (Reads.of_own HH4.out)
            refine AnyU.next (js := [9]) (by kernel_rfl) (by simp) (NextU.cons rfl (fun K hK => ?_) NextU.nil)
            refine step_append_any rfl (.const (.slice none 0 0)) (.tmp 111) 33 rfl w4.heap.size 3 (.int .i64 0) 1 8 infoI Try.underlying33 rfl (by decide) _ 0 [] rfl HNI.out w4.heap.size A5 head.length k5 _ rfl HRD.out G1.out G5.out G6.out (Nat.le_refl _) ?_
            intro v1 w5 hown1 hg1 _
            rw [Nat.zero_add, List.nil_append] at hown1
            have hb5 : Below w4.heap.size w4 w5 := ⟨hg1.os, hg1.tape, hg1.output, hg1.size, fun k hk => hg1.block k hk (by intro e; cases e)⟩
            have HB5 : Hid (Below w3.heap.size w3 w5) := hide (HB4.out.trans (hb5.mono HB4.out.size))
            have HW5 := hide (own_base hown1 (Nat.zero_le _))
            have HV4 : Hid (∀ i, v1.ownBlock = some i → w3.heap.size ≤ i) := hide (fun i hi => by have := (hown1.lt i hi).1; have := HB4.out.size; omega)
            have HN5 := hide ((hb5.block _ (lt_of_block HN4.out)).trans HN4.out)
            obtain ⟨A6, k6, hv6, _⟩ := own_sh hown1
            subst hv6
            have hS5 := (hb5.cell (p := ⟨b, 0, none⟩) (lt_of_cell hS4)).trans hS4
            clear hown1 hg1 hb5
            refine hK.out _ _ (fun _ => hS5) (fun hHeld => ?_)
            replace hHeld := hHeld (by decide)
            try simp only [Act.put, List.setIfInBounds_toArray, List.set_cons_zero, List.set_cons_succ]
            clear HB4 HN4 HH4 hS4
            have HRN := hide (reads_one HN5.out)
            have HGN := hide (G2.out (t : Int))
            refine AnyU.next (js := [12]) (by kernel_rfl) (by simp) (NextU.cons rfl (fun K hK => ?_) NextU.nil)
            refine step_append_any rfl (.tmp 112) (.tmp 114) 33 rfl 0 3 (.int .i64 0) 1 8 infoI Try.underlying33 rfl (by decide) _ _ _ rfl HW5.out w5.heap.size (some ⟨nb, 0, none⟩) 1 1 _ rfl HRN.out HGN.out G7.out G8.out (Nat.zero_le _) ?_
            intro v2 w6 hown2 hg2 hat2
            have hb6 : Below w3.heap.size w3 w6 := HB5.out.grown hg2 HB5.out.size (fun i hi => HV4.out i hi)
            have HB6 := hide hb6
            have HR6 := hide (HR3.out.below hb6)
            have HT6 := hide (HT3.out.trans (Step.below hb6 (Nat.le_of_lt HR3.out.lt)))
            have HO6 := hide ((hb6.block _ (lt_of_block HO3.out)).trans HO3.out)
            have HW6 : Hid (w6.ownsRow 0 3 1 v2 (head ++ [(t : Int)]).length ((head ++ [(t : Int)]).map (Value.int .i64))) := hide (by rw [List.length_append, List.map_append]; exact hown2)
            have hS6 := (hb6.cell (p := ⟨b, 0, none⟩) (lt_of_cell hS0)).trans hS0
            clear hown2 hg2 hat2 hb6
            refine hK.out _ _ (fun _ => hS6) (fun hHeld => ?_)
            replace hHeld := hHeld (by decide)
            try simp only [Act.put, List.setIfInBounds_toArray, List.set_cons_zero, List.set_cons_succ]
            have HC := hide (HIH.out (f - g) (head ++ [(t : Int)]) 0 v2 v' vs' out' w6 HFG.out.2 HR6.out HW6.out (by rw [List.length_append, HHL.out]; rfl) (by rw [HOUT.out, List.length_take]; exact Nat.min_le_left _ _))
            rw [← HFG.out.1] at HC
            refine AnyU.next (js := [13]) (by kernel_rfl) (by simp) (NextU.cons rfl (fun K hK => ?_) NextU.nil)
            go_simp
            refine (HC.out).mono ?_
            rintro e w9 ⟨rfl, v9, vs9, hr9, hs9⟩
            have HR9 := hide hr9
            have HT9 := hide (HT6.out.trans hs9)
            have hq9 := HR6.out.loc hs9 HO6.out (by decide) (by decide)
            have hS9 : w9.cell? ⟨b, 0, none⟩ = some (.int .u32 (g : Int)) := cell_of_row w9 b 0 _ _ (0, 0) hq9
            clear hr9 hs9 hq9 hS6 hS5 hS0 hHeld
            go_wp2_with fail
            refine hK.out _ _ (fun _ => hS9) (fun hHeld => ?_)
            replace hHeld := hHeld (by decide)
            try simp only [Act.put, List.setIfInBounds_toArray, List.set_cons_zero, List.set_cons_succ]
            refine AnyU.over (by kernel_rfl) ?_ _
            clear hHeld hS9
            go_wp2_with fail
            go_roundw
            case rel => exact ⟨t + 1, v9, vs9, _, by omega, by go_num, HR9.out, HT9.out, by rw [HT.out, HOUT.out, List.map_append, map_head, ← List.append_assoc, take_more]⟩
            case measure => simp [intOf]; omega
        · have hh : (co + rv == left) = false := by simpa using hhit
          rw [HHIT.out, hh, if_neg (by decide), List.append_nil] at HT
          clear hhit
          go_wp2_with fail
          go_quiet (fail)
          go_wp2_with fail
          go_roundw
          case rel => exact ⟨t + 1, v', vs', out', by omega, by go_num, HNB.out.1.below (below_drewN (Below.refl _ _) _), HNB.out.2.trans (Step.below (below_drewN (Below.refl _ _) _) (Nat.le_of_lt HNB.out.1.lt)), by rw [HT.out]; exact HOUT.out⟩
          case measure => simp [intOf]; omega
      · have ht1 : (((g &&& f : Nat) : Int) == (g : Int)) = false := by rw [beq_eq_false_iff_ne]; omega
        have hHB : hitB (bestW (ls.drop (k + 1))) left f (g, co) = false := by
          unfold hitB
          rw [withinB_and g f (by omega) (by omega)]
          simp [hwi]
        rw [hHB, if_neg (by decide), List.append_nil] at HT
        clear hwi hHB t2
        go_wp2_with fail
        go_quiet (fail)
        go_wp2_with fail
        go_roundw
        case rel => exact ⟨t + 1, v', vs', out', by omega, by go_num, HNB.out.1.below (below_drewN (Below.refl _ _) _), HNB.out.2.trans (Step.below (below_drewN (Below.refl _ _) _) (Nat.le_of_lt HNB.out.1.lt)), by rw [HT.out]; exact HOUT.out⟩
        case measure => simp [intOf]; omega
    · obtain rfl : t = l.length := by omega
      rw [List.take_length] at HOUT
      obtain ⟨g1, g0, u1, u0, hH, t1, t2, t3, t4⟩ := HTB.out wr HR.out.tab
      have t2' := t2 f HF.out
      clear t2
      by_cases hse : rest f = left
      · have hh : (rest f == left) = true := by simpa using hse
        rw [if_pos hse] at HCH
        clear hse
        generalize rest f = rv at *
        go_wp2_with fail
        go_quiet (fail)
        have HB2 : Hid (Below wr.heap.size wr (wr.drewN nq)) := hide (below_drewN (Below.refl _ _) _)
        have HR2 := hide (HR.out.below HB2.out)
        have HT2 := hide (HST.out.trans (Step.below HB2.out (Nat.le_of_lt HR.out.lt)))
        have HH2 := hide (own_below HHR.out HB2.out (Nat.le_refl _))
        clear t1 t2' t3 t4 c0 c1 c2 e0
        generalize wr.drewN nq = w2 at *
        have HNI : Hid (w2.ownsRow w2.heap.size 3 1 (.slice none 0 0) 0 []) := hide (World.ownsRow_nil _ _ _ _)
        have HRD : Hid (Reads w2 w2.heap.size 1 A5 head.length (head.map (Value.int .i64))) := hide (Reads.of_own HH2.out)
        have HGN := hide (G2.out (-1 : Int))
        have HC : Hid (∀ (v2 : Value) (X : World), RS q nn (some ⟨bb, bo, none⟩) c hs ls H sets most v' vs' out' X → X.ownsRow 0 3 1 v2 (head.length + 1) (head.map (Value.int .i64) ++ [.int .i64 (-1)]) → Calls Try.prog 40 #[.pointer (some ⟨q, 0, none⟩), .int .i64 ((k : Int) + 1), .int .i64 (f : Int), v2] X (OnR q nn (some ⟨bb, bo, none⟩) c hs ls H sets most (k + 1) f (head ++ [(-1 : Int)]) v' out' X)) := hide (fun v2 X hrx how =>
          HIH.out f (head ++ [(-1 : Int)]) 0 v2 v' vs' out' X HF.out hrx (by rw [List.length_append, List.map_append]; exact how) (by rw [List.length_append, HHL.out]; rfl) (by rw [HOUT.out, List.length_take]; exact Nat.min_le_left _ _))
        go_wp2_with (first | (at_builtin; refine wpList_append_any rfl (.const (.slice none 0 0)) (.tmp 143) 33 rfl w2.heap.size 3 (.int .i64 0) 1 8 infoI Try.underlying33 rfl (by decide) _ 0 [] rfl HNI.out w2.heap.size A5 head.length k5 _ rfl HRD.out G1.out G5.out G6.out (Nat.le_refl _) ?_; intro v1 w4 hown1 hg1 _; rw [Nat.zero_add, List.nil_append] at hown1; have hb4 : Below w2.heap.size w2 w4 := ⟨hg1.os, hg1.tape, hg1.output, hg1.size, fun k hk => hg1.block k hk (by intro e; cases e)⟩; have HB5 : Hid (Below w2.heap.size w2 (w4.alloc (.cells #[.int .i64 (-1)] 3))) := hide (hb4.alloc hb4.size _); have HW5 := hide ((own_base hown1 (Nat.zero_le _)).alloc (.cells #[.int .i64 (-1)] 3)); have HN5 : Hid ((w4.alloc (.cells #[.int .i64 (-1)] 3)).heap[w4.heap.size]? = some (.cells #[.int .i64 (-1)] 3 (0, 0))) := hide (heap_alloc_new w4 _); have HV4 : Hid (∀ i, v1.ownBlock = some i → w2.heap.size ≤ i) := hide (fun i hi => (hown1.lt i hi).1); have HRN := hide (reads_one HN5.out); obtain ⟨A6, k6, hv6, _⟩ := own_sh hown1; subst hv6; clear hown1 hg1 hb4) | (at_builtin; refine wpList_append_any rfl (.tmp 144) (.tmp 145) 33 rfl 0 3 (.int .i64 0) 1 8 infoI Try.underlying33 rfl (by decide) _ _ _ rfl HW5.out (w4.alloc (.cells #[.int .i64 (-1)] 3)).heap.size (some ⟨w4.heap.size, 0, none⟩) 1 1 _ rfl HRN.out HGN.out G7.out G8.out (Nat.zero_le _) ?_; intro v2 w6 hown2 hg2 _; have hb6 : Below w2.heap.size w2 w6 := HB5.out.grown hg2 HB5.out.size (fun i hi => HV4.out i hi); have HR6 := hide (HR2.out.below hb6); have HT6 := hide (HT2.out.trans (Step.below hb6 (Nat.le_of_lt HR2.out.lt))); have HW6 := hide hown2; clear hown2 hg2 hb6) | (go_at_call 40; refine (HC.out v2 w6 HR6.out HW6.out).mono ?_; rintro e w9 ⟨rfl, v9, vs9, hr9, hs9⟩; have HR9 := hide hr9; have HT9 := hide (HT6.out.trans hs9); clear hr9 hs9))
        go_end0
        exact ⟨rfl, v9, vs9, by rw [HCH.out, List.map_append, map_head, ← List.append_assoc, ← take_more, ← HOUT.out]; exact HR9.out, HT9.out⟩
      · have hh : (rest f == left) = false := by simpa using hse
        rw [if_neg hse, List.append_nil] at HCH
        clear hse
        generalize rest f = rv at *
        go_wp2_with fail
        go_quiet (fail)
        go_wp2_with fail
        go_end0
        exact ⟨rfl, v', vs', by rw [HCH.out, ← HOUT.out]; exact HR.out.below (below_drewN (Below.refl _ _) _), HST.out.trans (Step.below (below_drewN (Below.refl _ _) _) (Nat.le_of_lt HR.out.lt))⟩

theorem onr_all (q nn : Nat) (A : Option Addr) (c : Nat) (hs : List Hdr) (ls : List (List Offer)) (H sets most : Nat) (hI : GoodI (nn : Int) ls) (hsets : sets = 2 ^ nn) (hmo : most ≤ 1000) : ∀ j k, k + j = ls.length → OnRA q nn A c hs ls H sets most k
  | 0, k, hk => by
    intro f head hb hv v vs out W hf h hhd hhl hm
    obtain rfl : k = ls.length := by omega
    by_cases hfull : out.length = most
    · exact onr_full q nn A c hs ls H sets most ls.length f head hv v vs out W h hfull
    · exact onr_leaf q nn A c hs ls H sets most f head hb hv v vs out W h (by omega) hmo hI.few hhd (by have := hI.few; omega)
  | j + 1, k, hk => by
    intro f head hb hv v vs out W hf h hhd hhl hm
    by_cases hfull : out.length = most
    · exact onr_full q nn A c hs ls H sets most k f head hv v vs out W h hfull
    · exact onr_node q nn A c hs ls H sets most hI hsets hmo k (by omega) (onr_all q nn A c hs ls H sets most hI hsets hmo j (k + 1) (by omega)) f head hb hv v vs out W hf h hhd hhl (by omega)
end Go.Proofs.Ytkjmpenaifhfjaa
