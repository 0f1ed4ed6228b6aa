/- The walks of offers.Idle, with its closure, and of its reference. -/
import Derived.Test.YtkiebjgpghajbaaDoorOffA
namespace Go.Proofs.YtkiebjgpghajbaaDoor
open Go.RowKit Go.Maps
open Go.ChangeMaps Go.WideMaps

set_option maxRecDepth 100000 in
set_option maxHeartbeats 2000000 in
theorem ahead_any (i k : Nat) (a b : Offer) (pi pa : Nat) (w : World) (ha : a.1 < 4294967296) (hb : b.1 < 4294967296) (hpi : pi < w.heap.size) (hpa : pa < w.heap.size)
    (ci : w.cell? ⟨pi, 0, none⟩ = some (.int .i64 i)) (c0 : w.cell? ⟨pa, 0, none⟩ = some (.int .u32 (a.1 : Int))) (c1 : w.cell? ⟨pa, 1, none⟩ = some (.int .i64 a.2)) :
    Calls Tryd.prog 54 #[.int .i64 (k : Int), .agg #[.int .u32 (b.1 : Int), .int .i64 b.2], .pointer (some ⟨pi, 0, none⟩), .pointer (some ⟨pa, 0, none⟩)] w (ValPost (.bool (aheadB i a k b)) w) := by
  have HR : Hid (aheadB i a k b = if k = i ∨ b.2 < 1 ∨ withinB b.1 a.1 = false ∨ b.2 < a.2 then false else if b = a then decide (k < i) else true) := hide rfl
  have HB : Hid (Below w.heap.size w (w.alloc (.cells #[.int .u32 (b.1 : Int), .int .i64 b.2] 67))) := hide ((Below.refl _ _).alloc (Nat.le_refl _) _)
  have ci' : ∀ ob, (w.alloc ob).cell? ⟨pi, 0, none⟩ = some (.int .i64 i) := fun ob => (World.cell?_alloc_lt w ob ⟨pi, 0, none⟩ hpi).trans ci
  have c0' : ∀ ob, (w.alloc ob).cell? ⟨pa, 0, none⟩ = some (.int .u32 (a.1 : Int)) := fun ob => (World.cell?_alloc_lt w ob ⟨pa, 0, none⟩ hpa).trans c0
  have c1' : ∀ ob, (w.alloc ob).cell? ⟨pa, 1, none⟩ = some (.int .i64 a.2) := fun ob => (World.cell?_alloc_lt w ob ⟨pa, 1, none⟩ hpa).trans c1
  clear ci c0 c1 hpi hpa
  obtain ⟨ag, ac⟩ := a
  obtain ⟨bg, bc⟩ := b
  simp only at *
  have HWI := hide (fun W => within_any bg ag hb ha W)
  generalize hwi : withinB bg ag = wi at *
  generalize aheadB i (ag, ac) k (bg, bc) = R at *
  clear hwi
  by_cases h1 : k = i
  · have HR2 : Hid (R = false) := hide (by rw [HR.out, if_pos (.inl h1)])
    have e1 : ((k : Int) == (i : Int)) = true := by simp [h1]
    clear h1
    go_enter Tryd.func54, Tryd.ntmps54
    go_wp2_with fail
    go_ret
    exact ⟨by rw [HR2.out]; rfl, HB.out⟩
  · have e1 : ((k : Int) == (i : Int)) = false := by simp; omega
    by_cases h2 : bc < 1
    · have HR2 : Hid (R = false) := hide (by rw [HR.out, if_pos (.inr (.inl h2))])
      clear h1
      go_enter Tryd.func54, Tryd.ntmps54
      go_wp2_with fail
      go_ret
      exact ⟨by rw [HR2.out]; rfl, HB.out⟩
    · have d2 : decide (bc < 1) = false := decide_eq_false h2
      cases wi
      · have HR2 : Hid (R = false) := hide (by rw [HR.out, if_pos (.inr (.inr (.inl rfl)))])
        clear h1 h2
        go_enter Tryd.func54, Tryd.ntmps54
        go_wp2_with (go_at_call 52; refine (HWI.out _).mono ?_; rintro e w' ⟨rfl, rfl⟩)
        go_ret
        exact ⟨by rw [HR2.out]; rfl, HB.out⟩
      · by_cases h4 : bc < ac
        · have HR2 : Hid (R = false) := hide (by rw [HR.out, if_pos (.inr (.inr (.inr h4)))])
          clear h1 h2
          go_enter Tryd.func54, Tryd.ntmps54
          go_wp2_with (go_at_call 52; refine (HWI.out _).mono ?_; rintro e w' ⟨rfl, rfl⟩)
          go_ret
          exact ⟨by rw [HR2.out]; rfl, HB.out⟩
        · have d4 : decide (bc < ac) = false := decide_eq_false h4
          have HR3 : Hid (R = if (bg, bc) = (ag, ac) then decide (k < i) else true) := hide (by rw [HR.out, if_neg (by simp; omega)])
          clear h2 h4
          by_cases h5 : (bg, bc) = (ag, ac)
          · simp only [Prod.mk.injEq] at h5
            obtain ⟨rfl, rfl⟩ := h5
            have HR2 : Hid (R = decide (k < i)) := hide (by rw [HR3.out, if_pos rfl])
            have e6 : decide ((k : Int) < (i : Int)) = decide (k < i) := by simp
            clear h1
            go_enter Tryd.func54, Tryd.ntmps54
            go_wp2_with (go_at_call 52; refine (HWI.out _).mono ?_; rintro e w' ⟨rfl, rfl⟩)
            go_ret
            exact ⟨by rw [HR2.out, ← e6]; rfl, HB.out⟩
          · have HR2 : Hid (R = true) := hide (by rw [HR3.out, if_neg h5])
            clear h1
            by_cases hg : bg = ag
            · subst hg
              have hc : (bc == ac) = false := by
                simp only [beq_eq_false_iff_ne, ne_eq]
                intro e
                exact h5 (by rw [e])
              clear h5
              go_enter Tryd.func54, Tryd.ntmps54
              go_wp2_with (go_at_call 52; refine (HWI.out _).mono ?_; rintro e w' ⟨rfl, rfl⟩)
              go_ret
              exact ⟨by rw [HR2.out]; rfl, HB.out⟩
            · have hg' : ((bg : Int) == (ag : Int)) = false := by simp; omega
              clear h5 hg
              go_enter Tryd.func54, Tryd.ntmps54
              go_wp2_with (go_at_call 52; refine (HWI.out _).mono ?_; rintro e w' ⟨rfl, rfl⟩)
              go_ret
              exact ⟨by rw [HR2.out]; rfl, HB.out⟩

theorem idle_low {l : List Offer} {i : Int} (h : i < 0 ∨ (l.length : Int) ≤ i) : idleB l i = false := by
  unfold idleB
  split
  · rfl
  · rw [List.getElem?_eq_none (by omega)]
theorem idle_at {l : List Offer} {i : Nat} {a : Offer} (h : l[i]? = some a) : idleB l i = idleN l i a := by
  unfold idleB
  rw [if_neg (by omega), Int.toNat_natCast, h]

set_option maxRecDepth 100000 in
set_option maxHeartbeats 2000000 in
theorem idle_any (A : Option Addr) (c : Nat) (l : List Offer) (i : Int) (w : World) (h : Offs w w.heap.size A l) (hl : l.length ≤ 1000000) (hw : OWide l) :
    Calls Tryd.prog 30 #[.slice A l.length c, .int .i64 i] w (ValPost (.bool (idleB l i)) w) := by
  have hat := Offs.at_ h
  have HWD := hide hw
  have HB : Hid (Below w.heap.size w (w.alloc (.cells #[.int .i64 i] 3))) := hide ((Below.refl _ _).alloc (Nat.le_refl _) _)
  clear h hw
  by_cases h1 : i < 0
  · have HR : Hid (idleB l i = false) := hide (idle_low (.inl h1))
    go_enter Tryd.func30, Tryd.ntmps30
    go_wp2_with fail
    go_step3
    go_wp2_with fail
    rw [Exit.noGoto_ret]
    go_ret
    exact ⟨by rw [HR.out]; rfl, HB.out⟩
  · have d1 : decide (i < 0) = false := decide_eq_false h1
    by_cases h2 : (l.length : Int) ≤ i
    · have HR : Hid (idleB l i = false) := hide (idle_low (.inr h2))
      clear h1
      go_enter Tryd.func30, Tryd.ntmps30
      go_wp2_with fail
      go_step3
      go_wp2_with fail
      rw [Exit.noGoto_ret]
      go_ret
      exact ⟨by rw [HR.out]; rfl, HB.out⟩
    · have d2 : decide ((l.length : Int) ≤ i) = false := decide_eq_false h2
      obtain ⟨n, rfl⟩ : ∃ n : Nat, i = n := ⟨i.toNat, by omega⟩
      have hnl : n < l.length := by omega
      obtain ⟨b, o, rfl, hbB, hcc⟩ := hat (by omega)
      obtain ⟨a, ha⟩ : ∃ a, l[n]? = some a := ⟨l[n], List.getElem?_eq_getElem hnl⟩
      have HI := hide (idle_at ha)
      obtain ⟨hc0, hc1⟩ := hcc n a ha
      have HCC : Hid (∀ (k : Nat) (x : Offer) (W : World), Below w.heap.size w W → l[k]? = some x → W.cell? ⟨b, o + k * 2, none⟩ = some (.int .u32 (x.1 : Int)) ∧ W.cell? ⟨b, o + k * 2 + 1, none⟩ = some (.int .i64 x.2)) := hide (fun k x W hW hx => ⟨(hW.cell (p := ⟨b, o + k * 2, none⟩) hbB).trans (hcc k x hx).1, (hW.cell (p := ⟨b, o + k * 2 + 1, none⟩) hbB).trans (hcc k x hx).2⟩)
      have e0 : ∀ ob, (w.alloc ob).cell? ⟨b, o + n * 2, none⟩ = some (.int .u32 (a.1 : Int)) := fun ob => (World.cell?_alloc_lt w ob ⟨b, o + n * 2, none⟩ hbB).trans hc0
      have e1 : ∀ ob, (w.alloc ob).cell? ⟨b, o + n * 2 + 1, none⟩ = some (.int .i64 a.2) := fun ob => (World.cell?_alloc_lt w ob ⟨b, o + n * 2 + 1, none⟩ hbB).trans hc1
      have ha32 := (HWD.out a (List.mem_of_getElem? ha)).1
      have hni : (n : Int) < (l.length : Int) := by omega
      have HAW := hide ha
      obtain ⟨ag, ac⟩ := a
      simp only at e0 e1 ha32
      clear hc0 hc1 hcc hat ha h1 h2
      by_cases h3 : ac < 1
      · have HR : Hid (idleB l n = false) := hide (by rw [HI.out]; unfold idleN; rw [if_pos h3])
        go_enter Tryd.func30, Tryd.ntmps30
        go_wp2_with fail
        go_step3
        go_wp2_with fail
        rw [Exit.noGoto_ret]
        go_ret
        exact ⟨by rw [HR.out]; rfl, HB.out⟩
      · have d3 : decide (ac < 1) = false := decide_eq_false h3
        have HR : Hid (idleB l n = anyFrom (aheadB n (ag, ac)) 0 l) := hide (by rw [HI.out]; unfold idleN; rw [if_neg h3])
        generalize idleB l n = R at *
        clear h3
        go_enter Tryd.func30, Tryd.ntmps30
        go_wp2_with fail
        go_step3
        go_wp2_with fail
        have HB2 : Hid (Below w.heap.size w ((w.alloc (.cells #[.int .i64 n] 3)).alloc (.cells #[.int .u32 (ag : Int), .int .i64 ac] 67))) := hide ((HB.out).alloc (by simp) _)
        have HP1 : Hid (((w.alloc (.cells #[.int .i64 n] 3)).alloc (.cells #[.int .u32 (ag : Int), .int .i64 ac] 67)).heap[w.heap.size]? = some (.cells #[.int .i64 n] 3 (0, 0))) := hide (by rw [Below.heap_alloc _ _ _ (by simp)]; exact heap_alloc_new w _)
        have HP2 : Hid (((w.alloc (.cells #[.int .i64 n] 3)).alloc (.cells #[.int .u32 (ag : Int), .int .i64 ac] 67)).heap[w.heap.size + 1]? = some (.cells #[.int .u32 (ag : Int), .int .i64 ac] 67 (0, 0))) := hide (by
          have := heap_alloc_new (w.alloc (.cells #[.int .i64 n] 3)) (.cells #[.int .u32 (ag : Int), .int .i64 ac] 67)
          simpa using this)
        generalize (w.alloc (.cells #[.int .i64 n] 3)).alloc (.cells #[.int .u32 (ag : Int), .int .i64 ac] 67) = w2 at *
        have HL2 : Hid (w.heap.size + 1 < w2.heap.size) := hide (lt_of_block HP2.out)
        clear e0 e1
        go_step3
        go_wp2_with fail
        have d5 : decide (l.length ≤ n) = false := by simp; omega
        rw [d5]
        clear d5
        go_loopw [32] (fun iv wr => ∃ k : Nat, k ≤ l.length ∧ iv = .int .i64 k ∧ R = anyFrom (aheadB n (ag, ac)) k (l.drop k) ∧ Below w2.heap.size w2 wr) (fun iv _ => l.length - (intOf iv).toNat)
        case atStart => exact ⟨0, Nat.zero_le _, rfl, HR.out, Below.refl _ _⟩
        case round =>
          obtain ⟨k, hk, rfl, hR, hbr⟩ := hrel
          have HRK := hide hR
          have HBR := hide hbr
          clear hR hbr
          by_cases hlt : k < l.length
          · obtain ⟨x, hx⟩ : ∃ x, l[k]? = some x := ⟨l[k], List.getElem?_eq_getElem hlt⟩
            have HBW : Hid (Below w.heap.size w wr) := hide (HB2.out.trans (HBR.out.mono HB2.out.size))
            obtain ⟨d0, d1⟩ := HCC.out k x wr HBW.out hx
            have hx32 := (HWD.out x (List.mem_of_getElem? hx)).1
            have HX := hide hx
            have HST := hide (any_step (p := aheadB n (ag, ac)) hx)
            obtain ⟨xg, xc⟩ := x
            simp only at d0 d1 hx32
            have hki : (k : Int) < (l.length : Int) := by omega
            have HCL : Hid (Calls Tryd.prog 54 #[.int .i64 (k : Int), .agg #[.int .u32 (xg : Int), .int .i64 xc], .pointer (some ⟨w.heap.size, 0, none⟩), .pointer (some ⟨w.heap.size + 1, 0, none⟩)] (wr.alloc (.cells #[.int .u32 (xg : Int), .int .i64 xc] 67)) (ValPost (.bool (aheadB n (ag, ac) k (xg, xc))) (wr.alloc (.cells #[.int .u32 (xg : Int), .int .i64 xc] 67)))) := hide (by
              have hb3 : Below w2.heap.size w2 (wr.alloc (.cells #[.int .u32 (xg : Int), .int .i64 xc] 67)) := HBR.out.alloc HBR.out.size _
              have b1 := (hb3.block _ (by have := HL2.out; omega)).trans HP1.out
              have b2 := (hb3.block _ HL2.out).trans HP2.out
              exact ahead_any n k (ag, ac) (xg, xc) w.heap.size (w.heap.size + 1) _ ha32 hx32 (lt_of_block b1) (lt_of_block b2) (cell_of_row _ _ 0 _ _ (0, 0) b1) (cell_of_row _ _ 0 _ _ (0, 0) b2) (cell_of_row _ _ 1 _ _ (0, 0) b2))
            clear hx
            generalize aheadB n (ag, ac) k (xg, xc) = q at *
            cases q
            · have HN : Hid (R = anyFrom (aheadB n (ag, ac)) (k + 1) (l.drop (k + 1))) := hide (by rw [HRK.out, HST.out, Bool.false_or])
              go_wp2_with (go_at_call 54; refine (HCL.out).mono ?_; rintro e w3 ⟨rfl, hb3⟩)
              go_roundw
              case rel => exact ⟨k + 1, by omega, by go_num, HN.out, HBR.out.trans (((Below.refl _ _).alloc (Nat.le_refl _) _).trans (hb3.mono (by simp)) |>.mono HBR.out.size)⟩
              case measure => simp [intOf]; omega
            · have HN : Hid (R = true) := hide (by rw [HRK.out, HST.out, Bool.true_or])
              go_wp2_with (go_at_call 54; refine (HCL.out).mono ?_; rintro e w3 ⟨rfl, hb3⟩)
              rw [Exit.noGoto_ret]
              go_ret
              exact ⟨by rw [HN.out]; rfl, HBW.out.trans (((Below.refl _ _).alloc (Nat.le_refl _) _).trans (hb3.mono (by simp)) |>.mono HBW.out.size)⟩
          · obtain rfl : k = l.length := by omega
            have HN : Hid (R = false) := hide (by rw [HRK.out, any_end])
            go_wp2_with fail
            rw [Exit.noGoto_ret]
            go_ret
            exact ⟨by rw [HN.out]; rfl, HB2.out.trans (HBR.out.mono HB2.out.size)⟩
end Go.Proofs.YtkiebjgpghajbaaDoor
