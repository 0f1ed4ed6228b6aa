/- The law GoodsEach: its walk. -/
import Derived.Test.YtffpiaipdeebcaaDoorEaS
namespace Go.Proofs.YtffpiaipdeebcaaDoor
open Go.RowKit Go.Shelf

attribute [local go_sem] Oper.semAt_some

/-- The two iterators are made. -/
structure R1P (w w1 : World) (s : Nat) (lv : Int) (W : World) : Prop where
  ask : AskE w s lv false W
  e : W.heap[w1.heap.size]? = some (.cells #[.int .u32 (s : Int)] 25 (0, 0))
  q : W.heap[w1.heap.size + 1]? = some (.cells #[.int .u32 (s : Int)] 25 (0, 0))
theorem r1_fact {w w1 : World} {s : Nat} {lv : Int} (h : AskE w s lv false w1) (W : World) (hW : W = ((w1.alloc (.cells #[.int .u32 (s : Int)] 25)).alloc (.cells #[.int .u32 (s : Int)] 25)).drew) : R1P w w1 s lv W := by
  have hb : Below w1.heap.size w1 W := by rw [hW]; exact (((Below.refl _ _).alloc (by simp) _).alloc (by simp) _).drew
  refine ⟨h.below hb, ?_, ?_⟩
  · rw [hW]
    exact (Below.heap_alloc _ _ _ (by simp)).trans (heap_alloc_new w1 (.cells #[.int .u32 (s : Int)] 25))
  · rw [hW]
    have := heap_alloc_new (w1.alloc (.cells #[.int .u32 (s : Int)] 25)) (.cells #[.int .u32 (s : Int)] 25)
    rw [World.size_alloc] at this
    exact this
set_option maxRecDepth 100000 in
set_option maxHeartbeats 8000000 in
theorem eachLaw_pos (s from_ : Nat) (hs : s < 4294967296) (hf : from_ < 4294967296) (lv : Int) (hlv : -9223372036854775808 ≤ lv ∧ lv ≤ 9223372036854775807) (hsg : 0 < lv) (w : World) (hT : TabW w) (hM : MlW w) :
    Calls Tryd.prog 6 #[.int .u32 (s : Int), .int .u32 (from_ : Int), .int .i64 lv] w (ValPost (.bool true) w) := by
  have HT := hide hT
  have csg : decide ((0 : Int) < lv) = true := decide_eq_true (by omega)
  have csg2 : decide (lv ≤ (0 : Int)) = false := decide_eq_false (by omega)
  have HKN := hide (fun W (hb : Below w.heap.size w W) => known_any W (hT.below hb) (hM.below hb))
  have HSU := hide (fun W => subsets_any s W)
  have HEA := hide (fun W => each_any s W)
  have HRE := hide (fun W => refeach_any s hs W)
  unfold EachP at HRE
  have hel := eachL_len s
  have HEL := hide (each_eachL s hs)
  obtain ⟨L, hL⟩ : ∃ L, eachL s = L := ⟨_, rfl⟩
  rw [hL] at HRE hel HEL
  clear hT hM hL
  refine (callsIn_wide (n := 9)).1 ?_
  refine callsIn_of_wp_marks Tryd.func6 rfl trivial ?_ rfl
  simp only [Tryd.ntmps6, List.size_toArray, List.length_cons, List.length_nil, Nat.reduceAdd, Nat.reduceSub, Array.replicate_succ, Array.replicate_zero, List.push_toArray, List.append_toArray, List.nil_append, List.cons_append]
  gi_wp2_with fail
  have HR1 := hide (AskE.start w s lv)
  generalize ((w.alloc (.cells #[.int .u32 (s : Int)] 25)).alloc (.cells #[.int .i64 lv] 3)).alloc (.cells #[.bool false] 4) = w1 at *
  obtain ⟨x0, _, _, _⟩ := HR1.out.cells
  refine wpIn_mono (Q := fun e a W => e = .normal ∧ a = { tmps := #[.int .u32 (s : Int), .int .u32 (from_ : Int), .int .i64 lv, .pointer (some ⟨w.heap.size, 0, none⟩), undef, .pointer (some ⟨w.heap.size + 1, 0, none⟩), .pointer (some ⟨w.heap.size + 1 + 1, 0, none⟩), .func (.func 49) #[] #[.pointer (some ⟨w1.heap.size, 0, none⟩)], .func (.func 51) #[] #[.pointer (some ⟨w1.heap.size + 1, 0, none⟩)], undef, undef, undef, undef, undef, undef, undef, undef, undef, undef, undef, undef, undef, .int .u32 (s : Int), .func (.func 49) #[] #[.pointer (some ⟨w1.heap.size, 0, none⟩)], .int .u32 (s : Int), .func (.func 51) #[] #[.pointer (some ⟨w1.heap.size + 1, 0, none⟩)], undef, undef, undef, undef, undef, undef, undef, undef, undef, undef, undef, undef, undef, undef, undef, undef, undef, undef, undef, undef, undef, undef, undef, undef, undef, undef, undef, undef, undef, undef, undef, undef, undef, undef, undef, undef, undef, undef, undef, undef, undef, undef, undef, undef, undef, undef, undef, undef, undef, undef, undef, undef, undef, undef, undef, undef, undef, undef, undef, undef, undef, undef, undef, undef, undef, undef, undef, undef, undef, undef, undef, undef, undef, undef, undef, undef, undef, undef, undef, undef, undef, undef, undef, undef, undef, undef, undef, undef, undef, undef, undef, undef, undef, undef, undef, undef, undef, undef, undef, undef, undef, undef, undef, undef, undef, undef, undef, undef, undef, undef, undef, undef, undef, undef, undef], defers := [] } ∧ R1P w w1 s lv W) ?r1 ?go1
  case r1 =>
    have a0 : (w1.alloc (.cells #[.int .u32 (s : Int)] 25)).cell? ⟨w.heap.size, 0, none⟩ = some (.int .u32 (s : Int)) := (HR1.out.below ((Below.refl _ _).alloc (Nat.le_refl _) _)).cells.1
    refine wpIn_region_any (by kernel_rfl) ?_
    refine wpAnyIn_ready (rs := [0, 2]) (by kernel_rfl) (by simp) ?_
    refine AllReadyIn.cons rfl (fun K hK => ?_) (AllReadyIn.cons rfl (fun K hK => ?_) AllReadyIn.nil)
    · go_simp
      refine hK _ _ ?_
      clear hK K
      refine wpAnyIn_ready (rs := [1, 2]) (by kernel_rfl) (by simp) ?_
      refine AllReadyIn.cons rfl (fun K hK => ?_) (AllReadyIn.cons rfl (fun K hK => ?_) AllReadyIn.nil)
      · go_simp
        refine ⟨trivial, ?_⟩
        refine (callsIn_wide.2 (HEA.out _)).mono ?_
        rintro e W3 ⟨rfl, rfl⟩
        refine hK _ _ ?_
        clear hK K
        refine wpAnyIn_ready (rs := [2]) (by kernel_rfl) (by simp) ?_
        refine AllReadyIn.cons rfl (fun K hK => ?_) AllReadyIn.nil
        go_simp
        refine hK _ _ ?_
        clear hK K
        refine wpAnyIn_ready (rs := [3]) (by kernel_rfl) (by simp) ?_
        refine AllReadyIn.cons rfl (fun K hK => ?_) AllReadyIn.nil
        go_simp
        refine ⟨trivial, ?_⟩
        refine (callsIn_wide.2 (HSU.out _)).mono ?_
        rintro e W3 ⟨rfl, rfl⟩
        refine hK _ _ ?_
        clear hK K
        refine wpAnyIn_ready (rs := [4]) (by kernel_rfl) (by simp) ?_
        refine AllReadyIn.cons rfl (fun K hK => ?_) AllReadyIn.nil
        go_simp
        refine hK _ _ ?_
        clear hK K
        refine wpAnyIn_ready (rs := [5]) (by kernel_rfl) (by simp) ?_
        refine AllReadyIn.cons rfl (fun K hK => ?_) AllReadyIn.nil
        go_simp
        refine hK _ _ ?_
        clear hK K
        refine wpAnyIn_done (by kernel_rfl) ?_ _
        exact ⟨rfl, by simp, r1_fact HR1.out _ rfl⟩
      · go_simp
        refine hK _ _ ?_
        clear hK K
        refine wpAnyIn_ready (rs := [1]) (by kernel_rfl) (by simp) ?_
        refine AllReadyIn.cons rfl (fun K hK => ?_) AllReadyIn.nil
        go_simp
        refine ⟨trivial, ?_⟩
        refine (callsIn_wide.2 (HEA.out _)).mono ?_
        rintro e W3 ⟨rfl, rfl⟩
        refine hK _ _ ?_
        clear hK K
        refine wpAnyIn_ready (rs := [3]) (by kernel_rfl) (by simp) ?_
        refine AllReadyIn.cons rfl (fun K hK => ?_) AllReadyIn.nil
        go_simp
        refine ⟨trivial, ?_⟩
        refine (callsIn_wide.2 (HSU.out _)).mono ?_
        rintro e W3 ⟨rfl, rfl⟩
        refine hK _ _ ?_
        clear hK K
        refine wpAnyIn_ready (rs := [4]) (by kernel_rfl) (by simp) ?_
        refine AllReadyIn.cons rfl (fun K hK => ?_) AllReadyIn.nil
        go_simp
        refine hK _ _ ?_
        clear hK K
        refine wpAnyIn_ready (rs := [5]) (by kernel_rfl) (by simp) ?_
        refine AllReadyIn.cons rfl (fun K hK => ?_) AllReadyIn.nil
        go_simp
        refine hK _ _ ?_
        clear hK K
        refine wpAnyIn_done (by kernel_rfl) ?_ _
        exact ⟨rfl, by simp, r1_fact HR1.out _ rfl⟩
    · go_simp
      refine hK _ _ ?_
      clear hK K
      refine wpAnyIn_ready (rs := [0]) (by kernel_rfl) (by simp) ?_
      refine AllReadyIn.cons rfl (fun K hK => ?_) AllReadyIn.nil
      go_simp
      refine hK _ _ ?_
      clear hK K
      refine wpAnyIn_ready (rs := [1]) (by kernel_rfl) (by simp) ?_
      refine AllReadyIn.cons rfl (fun K hK => ?_) AllReadyIn.nil
      go_simp
      refine ⟨trivial, ?_⟩
      refine (callsIn_wide.2 (HEA.out _)).mono ?_
      rintro e W3 ⟨rfl, rfl⟩
      refine hK _ _ ?_
      clear hK K
      refine wpAnyIn_ready (rs := [3]) (by kernel_rfl) (by simp) ?_
      refine AllReadyIn.cons rfl (fun K hK => ?_) AllReadyIn.nil
      go_simp
      refine ⟨trivial, ?_⟩
      refine (callsIn_wide.2 (HSU.out _)).mono ?_
      rintro e W3 ⟨rfl, rfl⟩
      refine hK _ _ ?_
      clear hK K
      refine wpAnyIn_ready (rs := [4]) (by kernel_rfl) (by simp) ?_
      refine AllReadyIn.cons rfl (fun K hK => ?_) AllReadyIn.nil
      go_simp
      refine hK _ _ ?_
      clear hK K
      refine wpAnyIn_ready (rs := [5]) (by kernel_rfl) (by simp) ?_
      refine AllReadyIn.cons rfl (fun K hK => ?_) AllReadyIn.nil
      go_simp
      refine hK _ _ ?_
      clear hK K
      refine wpAnyIn_done (by kernel_rfl) ?_ _
      exact ⟨rfl, by simp, r1_fact HR1.out _ rfl⟩
  case go1 =>
    rintro e a w2 ⟨rfl, rfl, hp⟩
    obtain ⟨h1, h2, h3⟩ := hp
    have HR2 := hide h1
    have HE2 := hide h2
    have HQ2 := hide h3
    have hfe : ∀ (W : World), (binOp .eql 56 (.func (.func 49) #[] #[.pointer (some ⟨w1.heap.size, 0, none⟩)]) .nilFunc).run Tryd.prog W = .ok (.bool false) W := fun _ => rfl
    have hfs : ∀ (W : World), (binOp .eql 59 (.func (.func 51) #[] #[.pointer (some ⟨w1.heap.size + 1, 0, none⟩)]) .nilFunc).run Tryd.prog W = .ok (.bool false) W := fun _ => rfl
    clear h1 h2 h3 HR1 x0
    obtain ⟨x0, _, _, _⟩ := HR2.out.cells
    gi_wp2_with (refine ⟨trivial, ?_⟩; gi_at_call 21; refine (callsIn_wide.2 (HRE.out w2)).mono ?_; rintro e w3 ⟨A, c, rfl, hone, hb3⟩; have HO3 := hide hone; have HR3 := hide (HR2.out.below hb3); have HE3 := hide ((hb3.block _ (lt_of_block HE2.out)).trans HE2.out); have HQ3 := hide ((hb3.block _ (lt_of_block HQ2.out)).trans HQ2.out); have HB3 := hide (HR3.out.bel); clear hone hb3 x0)
    have HB4 : Hid (Below w3.heap.size w3 (w3.alloc (.cells #[.slice A L.length c] 22))) := hide ((Below.refl _ _).alloc (Nat.le_refl _) _)
    have HK4 : Hid ((w3.alloc (.cells #[.slice A L.length c] 22)).heap[w3.heap.size]? = some (.cells #[.slice A L.length c] 22 (0, 0))) := hide (heap_alloc_new w3 _)
    have HR4 := hide (HR3.out.below HB4.out)
    have HS0 := hide (TurnI.start (w3.alloc (.cells #[.slice A L.length c] 22)) 0)
    refine wpIn_loop_rounds 3 ?_
    rw [roundsIn_succ]
    gi_wp2_with fail
    have HZ4 : Hid (w3.heap.size + 1 = (w3.alloc (.cells #[.slice A L.length c] 22)).heap.size) := hide (by simp)
    generalize w3.alloc (.cells #[.slice A L.length c] 22) = w4 at *
    have HBB : Hid (Below w4.heap.size w4 w4) := hide (Below.refl _ _)
    generalize (w4.alloc (.cells #[.int .i64 0] 3)).alloc (.cells #[.int .i64 0] 3) = ws0 at *
    obtain ⟨tc, htc⟩ : ∃ tc, tc = w3.heap.size + 1 := ⟨_, rfl⟩
    have HTC : Hid (tc = w4.heap.size) := hide (by rw [htc]; exact HZ4.out)
    have HZT : Hid (ws0.heap.size = tc + 2) := hide (by rw [HTC.out]; exact HS0.out.2)
    have HTI := hide HS0.out.1
    rw [← HTC.out] at HTI
    rw [← htc]
    clear htc
    refine wpIn_rangeCut (α := Fin 32) (encs := encE) (E := fun pre y => pre ++ [y] <+: eachF 33 s) (S := fun xs => xs = eachF 33 s) (Sp := fun pre => pre <+: eachF 33 s) (gf := 49) (lb := #[.pointer (some ⟨w1.heap.size, 0, none⟩)]) rfl (enters_of Tryd.func49 (by kernel_rfl) rfl) (fun i => i = tc + 1)
      (fun h => by have := HZT.out; omega) (fun h => by have := HZT.out; omega)
      (fun W hb hz => each_seq hs ((hb.block _ (by have := lt_of_block HE3.out; have := HB4.out.size; have := HBB.out.size; have := HZT.out; have := HTC.out; omega)).trans ((HTI.out.bel.block _ (by have := lt_of_block HE3.out; have := HB4.out.size; have := HBB.out.size; omega)).trans ((HBB.out.block _ (by have := lt_of_block HE3.out; have := HB4.out.size; omega)).trans ((HB4.out.block _ (lt_of_block HE3.out)).trans HE3.out))))
        (HT.out.below (HR3.out.bel.trans ((HB4.out.trans ((HBB.out.trans (HTI.out.bel.mono HBB.out.size)).mono HB4.out.size)).mono HR3.out.bel.size |>.trans (hb.mono (by have := HR3.out.bel.size; have := HB4.out.size; have := HBB.out.size; have := HZT.out; have := HTC.out; omega)))))
        (fun h => by have := HT.out.lt; have := HR3.out.bel.size; have := HB4.out.size; have := HBB.out.size; have := HZT.out; have := HTC.out; rcases h with h | h <;> omega)) (fun _ => rfl)
      2 (fun pre W' => OnE 0 lv pre.length ∧ TurnI w4 tc (tc + 1) 0 pre.length W') (fun pre W' => LeftE 0 lv pre.length ∧ TurnI w4 tc (tc + 1) 0 pre.length W')
      (fun W' => ∃ k : Nat, k ≤ 32 ∧ CountE 0 lv L.length k ∧ TurnI w4 tc (tc + 1) 0 k W')
      (fun s' X Y row hs' hg hr => ⟨hs'.1, hs'.2.own (S := ws0.heap.size) (by have := HZT.out; omega) (by have := HZT.out; omega) hg (fun r e => (hr r e).1)⟩) (fun s' X Y row hs' hg hr => ⟨hs'.1, hs'.2.own (S := ws0.heap.size) (by have := HZT.out; omega) (by have := HZT.out; omega) hg (fun r e => (hr r e).1)⟩) ⟨fun _ h => h, HTI.out⟩
      ?a1_0 7 ?assign_0 ?body_0 ?r_0 ?rx_0 (fun _ _ h => h) ?rest_0
    case assign_0 =>
      rintro l' pre x W' K he hK
      clear he
      simp only [encE]
      gi_wp2
      exact hK
    case r_0 =>
      rintro xs W' rfl ⟨h1, h2⟩
      have hlen : (eachF 33 s).length = L.length := by rw [← HEL.out, List.length_map]
      refine ⟨_, by omega, ?_, h2⟩
      unfold CountE
      split
      · rename_i hc
        have := h1 hc.1 hc.2
        omega
      · omega
    case rx_0 =>
      rintro pre W' hpre ⟨⟨h0, h3, h1⟩, h2⟩
      have hlen : (eachF 33 s).length = L.length := by rw [← HEL.out, List.length_map]
      have := hpre.length_le
      refine ⟨_, by omega, ?_, h2⟩
      unfold CountE
      rw [if_pos ⟨h0, by omega⟩]
      omega
    case body_0 =>
      rintro l' pre x Wr ⟨hlt, hti⟩ hE hsz
      obtain ⟨k, hk⟩ : ∃ k, k = pre.length := ⟨_, rfl⟩
      rw [← hk] at hlt hti
      have HLT := hide hlt
      have HT0 := hide hti
      have HLN : Hid ((pre ++ [x]).length = k + 1) := hide (by rw [List.length_append, ← hk]; rfl)
      have HW4 : Hid (Below w3.heap.size w3 Wr) := hide (HB4.out.trans ((HBB.out.trans (hti.bel.mono HBB.out.size)).mono HB4.out.size))
      have hkx : L[k]? = some x.val := by
        obtain ⟨r, hr⟩ := hE
        rw [← HEL.out, List.getElem?_map, ← hr, hk, List.append_assoc, List.getElem?_append_right (Nat.le_refl _), Nat.sub_self]
        rfl
      have hkl : k < L.length := (List.getElem?_eq_some_iff.1 hkx).1
      obtain ⟨bb, bo, hA, hbB, hcc⟩ := One.at_ (HO3.out.up HW4.out) (by omega)
      subst hA
      have d0 := hcc k _ hkx
      have y0 := cell_of_row Wr w3.heap.size 0 _ _ (0, 0) ((HBB.out.trans (hti.bel.mono HBB.out.size)).block _ (lt_of_block HK4.out) |>.trans HK4.out)
      obtain ⟨x10, x11, f11⟩ := hti.cells
      have hge : decide ((L.length : Int) ≤ (k : Int)) = false := decide_eq_false (by omega)
      have hki : (k : Int) < (L.length : Int) := by omega
      have hwk : IntKind.i64.wrap ((k : Int) + 1) = (k : Int) + 1 := Go.IntWalk.i64_in _ (by omega)
      have hkk : ((k + 1 : Nat) : Int) = (k : Int) + 1 := by omega
      have HT6 := hide (HT0.out.next (k + 1))
      have HX6 : Hid (OutP (fun i => i = tc + 1) Wr _) := hide ((OutP.refl (fun i => i = tc + 1) Wr).set ⟨tc + 1, 0, none⟩ rfl (.int .i64 ((k + 1 : Nat) : Int)))
      rw [hkk] at HT6 HX6
      obtain ⟨g10, g11, _⟩ := HT6.out.cells
      rw [hkk] at g11
      have g2 := (HR4.out.below (HBB.out.trans (HT6.out.bel.mono HBB.out.size))).cells.2.1
      clear hti hE hsz hk hcc hkx hlt hkk
      by_cases hlvk : (k : Int) + 1 = lv
      · have elv : ((k : Int) + 1 == lv) = true := by rw [beq_iff_eq]; exact hlvk
        have HLV : Hid (LeftE 0 lv (pre ++ [x]).length) := hide (by rw [HLN.out]; exact ⟨rfl, by omega, by omega⟩)
        have HTT : Hid (TurnI w4 tc (tc + 1) 0 (pre ++ [x]).length _) := hide (HLN.out ▸ HT6.out)
        clear hlvk
        gi_wp2_with fail
        first
          | exact ⟨HX6.out, HLV.out, HTT.out⟩
          | exact ⟨HX6.out, rfl, HLV.out, HTT.out⟩
      · have elv : ((k : Int) + 1 == lv) = false := by rw [beq_eq_false_iff_ne]; exact hlvk
        have HLV : Hid (OnE 0 lv (pre ++ [x]).length) := hide (by rw [HLN.out]; exact fun h0 h => by have h1 := HLT.out h0 h; omega)
        have HTT : Hid (TurnI w4 tc (tc + 1) 0 (pre ++ [x]).length _) := hide (HLN.out ▸ HT6.out)
        clear hlvk
        gi_wp2_with fail
        exact ⟨HX6.out, HLV.out, HTT.out⟩
    case rest_0 =>
      rintro D0 WT0 hD ⟨kx, hkx, hct, hti⟩ hK
      have hbT : Below w4.heap.size w4 WT0 := HBB.out.trans (hti.bel.mono HBB.out.size)
      have HBW0 := hide hbT
      have HKD0 := hide hK
      have HTW0 := hide hti.bel
      have HDW0 : Hid (w4.heap.size ≤ D0) := hide (by have := HZT.out; have := HTC.out; omega)
      have y0 := cell_of_row WT0 w3.heap.size 0 _ _ (0, 0) ((hbT.block _ (lt_of_block HK4.out)).trans HK4.out)
      have g2 := (HR4.out.below hbT).cells.2.1
      obtain ⟨x10, x11, _⟩ := hti.cells
      have hmn : min lv (L.length : Int) = (kx : Int) := by unfold CountE at hct; rw [if_pos ⟨rfl, hsg⟩] at hct; exact hct.symm
      clear hbT hti hK hD hct
      gi_wp2_with fail
      rw [roundsIn_succ]
      have HS1 := hide (TurnI.start WT0 1)
      clear y0 x10 x11 g2 HZT HTI HTC
      gi_wp2_with fail
      have HBB := HBW0
      clear HS0
      generalize (WT0.alloc (.cells #[.int .i64 1] 3)).alloc (.cells #[.int .i64 0] 3) = ws1 at *
      obtain ⟨tc, htc⟩ : ∃ tc, tc = WT0.heap.size := ⟨_, rfl⟩
      have HTC : Hid (tc = WT0.heap.size) := hide (by rw [htc]; skip)
      have HZT : Hid (ws1.heap.size = tc + 2) := hide (by rw [HTC.out]; exact HS1.out.2)
      have HTI := hide HS1.out.1
      rw [← HTC.out] at HTI
      rw [← htc]
      clear htc
      refine wpIn_rangeCut (α := Fin 32) (encs := encE) (E := fun pre y => pre ++ [y] <+: eachF 33 s) (S := fun xs => xs = eachF 33 s) (Sp := fun pre => pre <+: eachF 33 s) (gf := 49) (lb := #[.pointer (some ⟨w1.heap.size, 0, none⟩)]) rfl (enters_of Tryd.func49 (by kernel_rfl) rfl) (fun i => i = tc + 1)
        (fun h => by have := HZT.out; omega) (fun h => by have := HZT.out; omega)
        (fun W hb hz => each_seq hs ((hb.block _ (by have := lt_of_block HE3.out; have := HB4.out.size; have := HBB.out.size; have := HZT.out; have := HTC.out; omega)).trans ((HTI.out.bel.block _ (by have := lt_of_block HE3.out; have := HB4.out.size; have := HBB.out.size; omega)).trans ((HBB.out.block _ (by have := lt_of_block HE3.out; have := HB4.out.size; omega)).trans ((HB4.out.block _ (lt_of_block HE3.out)).trans HE3.out))))
          (HT.out.below (HR3.out.bel.trans ((HB4.out.trans ((HBB.out.trans (HTI.out.bel.mono HBB.out.size)).mono HB4.out.size)).mono HR3.out.bel.size |>.trans (hb.mono (by have := HR3.out.bel.size; have := HB4.out.size; have := HBB.out.size; have := HZT.out; have := HTC.out; omega)))))
          (fun h => by have := HT.out.lt; have := HR3.out.bel.size; have := HB4.out.size; have := HBB.out.size; have := HZT.out; have := HTC.out; rcases h with h | h <;> omega)) (fun _ => rfl)
        2 (fun pre W' => OnE 1 lv pre.length ∧ TurnI WT0 tc (tc + 1) 1 pre.length W') (fun pre W' => LeftE 1 lv pre.length ∧ TurnI WT0 tc (tc + 1) 1 pre.length W')
        (fun W' => ∃ k : Nat, k ≤ 32 ∧ CountE 1 lv L.length k ∧ TurnI WT0 tc (tc + 1) 1 k W')
        (fun s' X Y row hs' hg hr => ⟨hs'.1, hs'.2.own (S := ws1.heap.size) (by have := HZT.out; omega) (by have := HZT.out; omega) hg (fun r e => (hr r e).1)⟩) (fun s' X Y row hs' hg hr => ⟨hs'.1, hs'.2.own (S := ws1.heap.size) (by have := HZT.out; omega) (by have := HZT.out; omega) hg (fun r e => (hr r e).1)⟩) ⟨fun _ h => h, HTI.out⟩
        ?a1_1 7 ?assign_1 ?body_1 ?r_1 ?rx_1 (fun _ _ h => h) ?rest_1
      case assign_1 =>
        rintro l' pre x W' K he hK
        clear he
        simp only [encE]
        gi_wp2
        exact hK
      case r_1 =>
        rintro xs W' rfl ⟨h1, h2⟩
        have hlen : (eachF 33 s).length = L.length := by rw [← HEL.out, List.length_map]
        refine ⟨_, by omega, ?_, h2⟩
        unfold CountE
        split
        · rename_i hc
          have := h1 hc.1 hc.2
          omega
        · omega
      case rx_1 =>
        rintro pre W' hpre ⟨⟨h0, h3, h1⟩, h2⟩
        have hlen : (eachF 33 s).length = L.length := by rw [← HEL.out, List.length_map]
        have := hpre.length_le
        refine ⟨_, by omega, ?_, h2⟩
        unfold CountE
        rw [if_pos ⟨h0, by omega⟩]
        omega
      case body_1 =>
        rintro l' pre x Wr ⟨hlt, hti⟩ hE hsz
        obtain ⟨k, hk⟩ : ∃ k, k = pre.length := ⟨_, rfl⟩
        rw [← hk] at hlt hti
        have HLT := hide hlt
        have HT0 := hide hti
        have HLN : Hid ((pre ++ [x]).length = k + 1) := hide (by rw [List.length_append, ← hk]; rfl)
        have HW4 : Hid (Below w3.heap.size w3 Wr) := hide (HB4.out.trans ((HBB.out.trans (hti.bel.mono HBB.out.size)).mono HB4.out.size))
        have hkx : L[k]? = some x.val := by
          obtain ⟨r, hr⟩ := hE
          rw [← HEL.out, List.getElem?_map, ← hr, hk, List.append_assoc, List.getElem?_append_right (Nat.le_refl _), Nat.sub_self]
          rfl
        have hkl : k < L.length := (List.getElem?_eq_some_iff.1 hkx).1
        obtain ⟨bb, bo, hA, hbB, hcc⟩ := One.at_ (HO3.out.up HW4.out) (by omega)
        subst hA
        have d0 := hcc k _ hkx
        have y0 := cell_of_row Wr w3.heap.size 0 _ _ (0, 0) ((HBB.out.trans (hti.bel.mono HBB.out.size)).block _ (lt_of_block HK4.out) |>.trans HK4.out)
        obtain ⟨x10, x11, f11⟩ := hti.cells
        have hge : decide ((L.length : Int) ≤ (k : Int)) = false := decide_eq_false (by omega)
        have hki : (k : Int) < (L.length : Int) := by omega
        have hwk : IntKind.i64.wrap ((k : Int) + 1) = (k : Int) + 1 := Go.IntWalk.i64_in _ (by omega)
        have hkk : ((k + 1 : Nat) : Int) = (k : Int) + 1 := by omega
        have HT6 := hide (HT0.out.next (k + 1))
        have HX6 : Hid (OutP (fun i => i = tc + 1) Wr _) := hide ((OutP.refl (fun i => i = tc + 1) Wr).set ⟨tc + 1, 0, none⟩ rfl (.int .i64 ((k + 1 : Nat) : Int)))
        rw [hkk] at HT6 HX6
        obtain ⟨g10, g11, _⟩ := HT6.out.cells
        rw [hkk] at g11
        have g2 := (HR4.out.below (HBB.out.trans (HT6.out.bel.mono HBB.out.size))).cells.2.1
        clear hti hE hsz hk hcc hkx hlt hkk
        have HLV : Hid (OnE 1 lv (pre ++ [x]).length) := hide (fun h => absurd h (by decide))
        have HTT : Hid (TurnI WT0 tc (tc + 1) 1 (pre ++ [x]).length _) := hide (HLN.out ▸ HT6.out)
        gi_wp2_with fail
        exact ⟨HX6.out, HLV.out, HTT.out⟩
      case rest_1 =>
        rintro D1 WT1 hD ⟨kx, hkx, hct, hti⟩ hK
        have hbT : Below w4.heap.size w4 WT1 := HBB.out.trans (hti.bel.mono HBB.out.size)
        have HBW1 := hide hbT
        have HKD1 := hide hK
        have HTW1 := hide hti.bel
        have HDW1 : Hid (WT0.heap.size ≤ D1) := hide (by have := HZT.out; have := HTC.out; omega)
        have y0 := cell_of_row WT1 w3.heap.size 0 _ _ (0, 0) ((hbT.block _ (lt_of_block HK4.out)).trans HK4.out)
        have g2 := (HR4.out.below hbT).cells.2.1
        obtain ⟨x10, x11, _⟩ := hti.cells
        have hkl : kx = L.length := by unfold CountE at hct; rw [if_neg (fun h => absurd h.1 (by decide))] at hct; exact hct
        subst hkl
        clear hbT hti hK hD hct
        gi_wp2_with fail
        rw [roundsIn_succ]
        clear y0 x10 x11 g2 HZT HTI HTC
        gi_wp2_with fail
        have HBk : Hid (Below WT1.heap.size WT1 (WT1.alloc (.cells #[.int .i64 2] 3))) := hide ((Below.refl _ _).alloc (Nat.le_refl _) _)
        refine wpIn_loop_rounds 3 ?_
        rw [roundsIn_succ]
        generalize WT1.alloc (.cells #[.int .i64 2] 3) = wk at *
        have HRk := hide (HR4.out.below (HBW1.out.trans (HBk.out.mono HBW1.out.size)))
        have HQk : Hid (wk.heap[w1.heap.size + 1]? = some (.cells #[.int .u32 (s : Int)] 25 (0, 0))) := hide ((HBk.out.block _ (by have := lt_of_block HQ3.out; have := HB4.out.size; have := HBW1.out.size; omega)).trans ((HBW1.out.block _ (by have := lt_of_block HQ3.out; have := HB4.out.size; omega)).trans ((HB4.out.block _ (lt_of_block HQ3.out)).trans HQ3.out)))
        have HDa : Hid (w.heap.size + 3 ≤ D0 ∧ D0 < D1 ∧ D1 < WT1.heap.size ∧ WT1.heap.size ≤ wk.heap.size) := hide ⟨by have := HR4.out.lt; have := HDW0.out; omega, by have := HDW1.out; have := lt_of_block HKD0.out; omega, lt_of_block HKD1.out, HBk.out.size⟩
        have HKa : Hid (wk.heap[D0]? = some (.deferred (some []))) := hide ((HBk.out.block _ (by have := HDa.out; omega)).trans ((HTW1.out.block _ (lt_of_block HKD0.out)).trans HKD0.out))
        have HKb : Hid (wk.heap[D1]? = some (.deferred (some []))) := hide ((HBk.out.block _ (lt_of_block HKD1.out)).trans HKD1.out)
        clear HR4 HBW1 HBW0 HTW1 HTW0 HBB HDW0 HDW1 HKD0 HKD1 HK4 HB4 HQ3 HE3 HBk HS1
        have HBX : Hid (Below wk.heap.size wk wk) := hide (Below.refl _ _)
        have HX0 := hide (TurnX.start wk)
        gi_wp2_with fail
        have HZX : Hid (((((wk.alloc (.cells #[.int .i64 0] 3)).alloc (.cells #[.int .u32 0] 25)).alloc (.cells #[.bool true] 4))).heap.size = wk.heap.size + 3) := hide (by simp)
        generalize ((wk.alloc (.cells #[.int .i64 0] 3)).alloc (.cells #[.int .u32 0] 25)).alloc (.cells #[.bool true] 4) = wx0 at *
        obtain ⟨tb, htb⟩ : ∃ tb, tb = wk.heap.size := ⟨_, rfl⟩
        have HTB : Hid (tb = wk.heap.size) := hide htb
        rw [← HTB.out] at HX0 HZX
        rw [← htb]
        clear htb
        refine wpIn_rangeCut (α := Nat) (encs := encG) (E := fun pre x => ChainTo s pre x) (S := fun xs => ∃ pre x, xs = pre ++ [x] ∧ ChainTo s pre x ∧ (nextG x s).2 = false) (Sp := fun xs => ∃ pre x, xs = pre ++ [x] ∧ ChainTo s pre x) (gf := 51) (lb := #[.pointer (some ⟨w1.heap.size + 1, 0, none⟩)]) rfl (enters_of Tryd.func51 (by kernel_rfl) rfl) (fun i => i = tb ∨ i = tb + 1 ∨ i = tb + 2)
          (fun h => by have := HZX.out; omega) (fun h => by have := HZX.out; omega)
          (fun W hb hz => subs_seq hs ((hb.block _ (by have := lt_of_block HQk.out; have := HBX.out.size; have := HZX.out; have := HTB.out; omega)).trans ((HX0.out.bel.block _ (by have := lt_of_block HQk.out; have := HBX.out.size; omega)).trans ((HBX.out.block _ (lt_of_block HQk.out)).trans HQk.out)))
            (fun h => by have := lt_of_block HQk.out; have := HBX.out.size; have := HZX.out; have := HTB.out; omega)) (fun _ => rfl)
          6 (fun pre W' => ∃ a m, pre.length < 600 ∧ AtX s pre a m ∧ TurnX wk tb pre.length a m W') (fun pre W' => ∃ a m, pre.length = 600 ∧ TurnX wk tb pre.length a m W')
          (fun W' => ∃ (k a : Nat) (m : Bool), ((k < 600 ∧ m = false) ∨ k = 600) ∧ TurnX wk tb k a m W')
          (fun s' X Y row hs' hg hr => by obtain ⟨a, m, h1, h2, h3⟩ := hs'; exact ⟨a, m, h1, h2, h3.own (S := wx0.heap.size) (by have := HZX.out; omega) hg (fun r e => (hr r e).1)⟩) (fun s' X Y row hs' hg hr => by obtain ⟨a, m, h1, h3⟩ := hs'; exact ⟨a, m, h1, h3.own (S := wx0.heap.size) (by have := HZX.out; omega) hg (fun r e => (hr r e).1)⟩) ⟨0, true, by decide, .inl ⟨rfl, rfl, rfl⟩, HX0.out⟩
          ?a2_x1 7 ?assign_x1 ?body_x1 ?r_x1 ?rx_x1 (fun _ _ h => h) ?rest_x1
        case assign_x1 =>
          rintro l' pre x W' K he hK
          clear he
          simp only [encG]
          gi_wp2
          exact hK
        case r_x1 =>
          rintro xs W' ⟨q, x, rfl, hc, hn⟩ ⟨a, m, h1, h2, h3⟩
          refine ⟨_, a, m, .inl ⟨h1, ?_⟩, h3⟩
          rcases h2 with ⟨h, _⟩ | ⟨q', y, h, hn'⟩
          · exact absurd h (by simp)
          · obtain ⟨_, hy⟩ := List.append_inj' h rfl
            injection hy with hy _
            subst hy
            rw [hn'] at hn
            exact hn
        case rx_x1 =>
          rintro pre W' _ ⟨a, m, h1, h3⟩
          exact ⟨_, a, m, .inr h1, h3⟩
        case body_x1 =>
          rintro l' pre x Wr ⟨a, m, hlt, hat, htx⟩ hE hsz
          obtain ⟨rfl, rfl⟩ := hat.chain hE
          have hx32 := (hE.lt hs).1
          obtain ⟨k, hk⟩ : ∃ k, k = pre.length := ⟨_, rfl⟩
          rw [← hk] at hlt htx
          have HTX := hide htx
          have HLN : Hid ((pre ++ [a]).length = k + 1) := hide (by rw [List.length_append, ← hk]; rfl)
          obtain ⟨⟨nv, nb⟩, hnx⟩ : ∃ r, nextG a s = r := ⟨_, rfl⟩
          have HAT : Hid (AtX s (pre ++ [a]) nv nb) := hide (.inr ⟨pre, a, rfl, hnx⟩)
          have HNX := hide (refnext_any a s hx32 hs Wr)
          unfold ValPost at HNX
          rw [hnx] at HNX
          have g0 := (HRk.out.below (HBX.out.trans (htx.bel.mono HBX.out.size))).cells.1
          obtain ⟨y0, y1, y2, f0, f1, f2⟩ := htx.cells
          have hwk : IntKind.i64.wrap ((k : Int) + 1) = (k : Int) + 1 := Go.IntWalk.i64_in _ (by omega)
          have hkk : ((k + 1 : Nat) : Int) = (k : Int) + 1 := by omega
          clear htx hE hsz hk hat hnx
          have HK600 : Hid (k + 1 < 600 ∨ k + 1 = 600) := hide (by omega)
          by_cases h600 : k + 1 = 600
          · have e600 : ((k : Int) + 1 == 600) = true := by rw [beq_iff_eq]; omega
            have HE6 := hide h600
            clear h600
            gi_wp2_with (refine ⟨trivial, ?_⟩; gi_at_call 31; refine (callsIn_in HNX.out).mono ?_; rintro e W4 ⟨rfl, hb4⟩; have HT4 := hide (HTX.out.below hb4); have HX4 : Hid (OutP (fun i => i = tb ∨ i = tb + 1 ∨ i = tb + 2) Wr W4) := hide (OutP.of_below hb4); clear hb4 y0 y1 y2 f0 f1 f2 HNX; obtain ⟨y0, y1, y2, f0, f1, f2⟩ := HT4.out.cells)
            have HX8 := ((HX4.out.set ⟨tb + 1, 0, none⟩ (.inr (.inl rfl)) (.int .u32 (nv : Int))).set ⟨tb + 1 + 1, 0, none⟩ (.inr (.inr rfl)) (.bool nb)).set ⟨tb, 0, none⟩ (.inl rfl) (.int .i64 ((k : Int) + 1))
            have HT8 := ((HT4.out.setA nv).setM nb).setK (pre ++ [a]).length
            rw [show (((pre ++ [a]).length : Nat) : Int) = (k : Int) + 1 by rw [HLN.out]; exact hkk] at HT8
            have h9 : (pre ++ [a]).length = 600 := by rw [HLN.out]; exact HE6.out
            first
              | exact ⟨HX8, ⟨nv, nb, h9, HT8⟩⟩
              | exact ⟨HX8, rfl, ⟨nv, nb, h9, HT8⟩⟩
          · have e600 : ((k : Int) + 1 == 600) = false := by rw [beq_eq_false_iff_ne]; omega
            have HE6 : Hid (k + 1 < 600) := hide (by omega)
            clear h600
            gi_wp2_with (refine ⟨trivial, ?_⟩; gi_at_call 31; refine (callsIn_in HNX.out).mono ?_; rintro e W4 ⟨rfl, hb4⟩; have HT4 := hide (HTX.out.below hb4); have HX4 : Hid (OutP (fun i => i = tb ∨ i = tb + 1 ∨ i = tb + 2) Wr W4) := hide (OutP.of_below hb4); clear hb4 y0 y1 y2 f0 f1 f2 HNX; obtain ⟨y0, y1, y2, f0, f1, f2⟩ := HT4.out.cells)
            have HX8 := ((HX4.out.set ⟨tb + 1, 0, none⟩ (.inr (.inl rfl)) (.int .u32 (nv : Int))).set ⟨tb + 1 + 1, 0, none⟩ (.inr (.inr rfl)) (.bool nb)).set ⟨tb, 0, none⟩ (.inl rfl) (.int .i64 ((k : Int) + 1))
            have HT8 := ((HT4.out.setA nv).setM nb).setK (pre ++ [a]).length
            rw [show (((pre ++ [a]).length : Nat) : Int) = (k : Int) + 1 by rw [HLN.out]; exact hkk] at HT8
            have h9 : (pre ++ [a]).length < 600 := by rw [HLN.out]; exact HE6.out
            exact ⟨HX8, ⟨nv, nb, h9, HAT.out, HT8⟩⟩
        case rest_x1 =>
          rintro D0x WX0 hD ⟨k, a, m, hor, htx⟩ hK
          have hbT : Below wk.heap.size wk WX0 := HBX.out.trans (htx.bel.mono HBX.out.size)
          have HBW0 := hide hbT
          have HKD0 := hide hK
          have HTW0 := hide htx.bel
          have HDW0 : Hid (wk.heap.size ≤ D0x) := hide (by have := HZX.out; have := HTB.out; omega)
          obtain ⟨y0, y1, y2, f0, f1, f2⟩ := htx.cells
          clear hbT htx hK hD HX0 HZX HTB HBX
          rcases hor with ⟨hk6, rfl⟩ | rfl
          · have h6 : decide ((k : Int) < 600) = true := decide_eq_true (by omega)
            clear hk6
            gi_wp2_with fail
            rw [roundsIn_succ]
            have HX1 := hide (TurnX.start WX0)
            clear y0 y1 y2 f0 f1 f2 h6
            gi_wp2_with fail
            have HBX := HBW0
            have HZX : Hid (((((WX0.alloc (.cells #[.int .i64 0] 3)).alloc (.cells #[.int .u32 0] 25)).alloc (.cells #[.bool true] 4))).heap.size = WX0.heap.size + 3) := hide (by simp)
            generalize ((WX0.alloc (.cells #[.int .i64 0] 3)).alloc (.cells #[.int .u32 0] 25)).alloc (.cells #[.bool true] 4) = wx1 at *
            obtain ⟨tb, htb⟩ : ∃ tb, tb = WX0.heap.size := ⟨_, rfl⟩
            have HTB : Hid (tb = WX0.heap.size) := hide htb
            rw [← HTB.out] at HX1 HZX
            rw [← htb]
            clear htb
            refine wpIn_rangeCut (α := Nat) (encs := encG) (E := fun pre x => ChainTo s pre x) (S := fun xs => ∃ pre x, xs = pre ++ [x] ∧ ChainTo s pre x ∧ (nextG x s).2 = false) (Sp := fun xs => ∃ pre x, xs = pre ++ [x] ∧ ChainTo s pre x) (gf := 51) (lb := #[.pointer (some ⟨w1.heap.size + 1, 0, none⟩)]) rfl (enters_of Tryd.func51 (by kernel_rfl) rfl) (fun i => i = tb ∨ i = tb + 1 ∨ i = tb + 2)
              (fun h => by have := HZX.out; omega) (fun h => by have := HZX.out; omega)
              (fun W hb hz => subs_seq hs ((hb.block _ (by have := lt_of_block HQk.out; have := HBX.out.size; have := HZX.out; have := HTB.out; omega)).trans ((HX1.out.bel.block _ (by have := lt_of_block HQk.out; have := HBX.out.size; omega)).trans ((HBX.out.block _ (lt_of_block HQk.out)).trans HQk.out)))
                (fun h => by have := lt_of_block HQk.out; have := HBX.out.size; have := HZX.out; have := HTB.out; omega)) (fun _ => rfl)
              6 (fun pre W' => ∃ a m, pre.length < 600 ∧ AtX s pre a m ∧ TurnX WX0 tb pre.length a m W') (fun pre W' => ∃ a m, pre.length = 600 ∧ TurnX WX0 tb pre.length a m W')
              (fun W' => ∃ (k a : Nat) (m : Bool), ((k < 600 ∧ m = false) ∨ k = 600) ∧ TurnX WX0 tb k a m W')
              (fun s' X Y row hs' hg hr => by obtain ⟨a, m, h1, h2, h3⟩ := hs'; exact ⟨a, m, h1, h2, h3.own (S := wx1.heap.size) (by have := HZX.out; omega) hg (fun r e => (hr r e).1)⟩) (fun s' X Y row hs' hg hr => by obtain ⟨a, m, h1, h3⟩ := hs'; exact ⟨a, m, h1, h3.own (S := wx1.heap.size) (by have := HZX.out; omega) hg (fun r e => (hr r e).1)⟩) ⟨0, true, by decide, .inl ⟨rfl, rfl, rfl⟩, HX1.out⟩
              ?a2_x2 7 ?assign_x2 ?body_x2 ?r_x2 ?rx_x2 (fun _ _ h => h) ?rest_x2
            case assign_x2 =>
              rintro l' pre x W' K he hK
              clear he
              simp only [encG]
              gi_wp2
              exact hK
            case r_x2 =>
              rintro xs W' ⟨q, x, rfl, hc, hn⟩ ⟨a, m, h1, h2, h3⟩
              refine ⟨_, a, m, .inl ⟨h1, ?_⟩, h3⟩
              rcases h2 with ⟨h, _⟩ | ⟨q', y, h, hn'⟩
              · exact absurd h (by simp)
              · obtain ⟨_, hy⟩ := List.append_inj' h rfl
                injection hy with hy _
                subst hy
                rw [hn'] at hn
                exact hn
            case rx_x2 =>
              rintro pre W' _ ⟨a, m, h1, h3⟩
              exact ⟨_, a, m, .inr h1, h3⟩
            case body_x2 =>
              rintro l' pre x Wr ⟨a, m, hlt, hat, htx⟩ hE hsz
              obtain ⟨rfl, rfl⟩ := hat.chain hE
              have hx32 := (hE.lt hs).1
              obtain ⟨k, hk⟩ : ∃ k, k = pre.length := ⟨_, rfl⟩
              rw [← hk] at hlt htx
              have HTX := hide htx
              have HLN : Hid ((pre ++ [a]).length = k + 1) := hide (by rw [List.length_append, ← hk]; rfl)
              obtain ⟨⟨nv, nb⟩, hnx⟩ : ∃ r, nextG a s = r := ⟨_, rfl⟩
              have HAT : Hid (AtX s (pre ++ [a]) nv nb) := hide (.inr ⟨pre, a, rfl, hnx⟩)
              have HNX := hide (refnext_any a s hx32 hs Wr)
              unfold ValPost at HNX
              rw [hnx] at HNX
              have g0 := (HRk.out.below (HBX.out.trans (htx.bel.mono HBX.out.size))).cells.1
              obtain ⟨y0, y1, y2, f0, f1, f2⟩ := htx.cells
              have hwk : IntKind.i64.wrap ((k : Int) + 1) = (k : Int) + 1 := Go.IntWalk.i64_in _ (by omega)
              have hkk : ((k + 1 : Nat) : Int) = (k : Int) + 1 := by omega
              clear htx hE hsz hk hat hnx
              have HK600 : Hid (k + 1 < 600 ∨ k + 1 = 600) := hide (by omega)
              by_cases h600 : k + 1 = 600
              · have e600 : ((k : Int) + 1 == 600) = true := by rw [beq_iff_eq]; omega
                have HE6 := hide h600
                clear h600
                gi_wp2_with (refine ⟨trivial, ?_⟩; gi_at_call 31; refine (callsIn_in HNX.out).mono ?_; rintro e W4 ⟨rfl, hb4⟩; have HT4 := hide (HTX.out.below hb4); have HX4 : Hid (OutP (fun i => i = tb ∨ i = tb + 1 ∨ i = tb + 2) Wr W4) := hide (OutP.of_below hb4); clear hb4 y0 y1 y2 f0 f1 f2 HNX; obtain ⟨y0, y1, y2, f0, f1, f2⟩ := HT4.out.cells)
                have HX8 := ((HX4.out.set ⟨tb + 1, 0, none⟩ (.inr (.inl rfl)) (.int .u32 (nv : Int))).set ⟨tb + 1 + 1, 0, none⟩ (.inr (.inr rfl)) (.bool nb)).set ⟨tb, 0, none⟩ (.inl rfl) (.int .i64 ((k : Int) + 1))
                have HT8 := ((HT4.out.setA nv).setM nb).setK (pre ++ [a]).length
                rw [show (((pre ++ [a]).length : Nat) : Int) = (k : Int) + 1 by rw [HLN.out]; exact hkk] at HT8
                have h9 : (pre ++ [a]).length = 600 := by rw [HLN.out]; exact HE6.out
                first
                  | exact ⟨HX8, ⟨nv, nb, h9, HT8⟩⟩
                  | exact ⟨HX8, rfl, ⟨nv, nb, h9, HT8⟩⟩
              · have e600 : ((k : Int) + 1 == 600) = false := by rw [beq_eq_false_iff_ne]; omega
                have HE6 : Hid (k + 1 < 600) := hide (by omega)
                clear h600
                gi_wp2_with (refine ⟨trivial, ?_⟩; gi_at_call 31; refine (callsIn_in HNX.out).mono ?_; rintro e W4 ⟨rfl, hb4⟩; have HT4 := hide (HTX.out.below hb4); have HX4 : Hid (OutP (fun i => i = tb ∨ i = tb + 1 ∨ i = tb + 2) Wr W4) := hide (OutP.of_below hb4); clear hb4 y0 y1 y2 f0 f1 f2 HNX; obtain ⟨y0, y1, y2, f0, f1, f2⟩ := HT4.out.cells)
                have HX8 := ((HX4.out.set ⟨tb + 1, 0, none⟩ (.inr (.inl rfl)) (.int .u32 (nv : Int))).set ⟨tb + 1 + 1, 0, none⟩ (.inr (.inr rfl)) (.bool nb)).set ⟨tb, 0, none⟩ (.inl rfl) (.int .i64 ((k : Int) + 1))
                have HT8 := ((HT4.out.setA nv).setM nb).setK (pre ++ [a]).length
                rw [show (((pre ++ [a]).length : Nat) : Int) = (k : Int) + 1 by rw [HLN.out]; exact hkk] at HT8
                have h9 : (pre ++ [a]).length < 600 := by rw [HLN.out]; exact HE6.out
                exact ⟨HX8, ⟨nv, nb, h9, HAT.out, HT8⟩⟩
            case rest_x2 =>
              rintro D1x WX1 hD ⟨k, a, m, hor, htx⟩ hK
              have hbT : Below wk.heap.size wk WX1 := HBX.out.trans (htx.bel.mono HBX.out.size)
              have HBW1 := hide hbT
              have HKD1 := hide hK
              have HTW1 := hide htx.bel
              have HDW1 : Hid (WX0.heap.size ≤ D1x) := hide (by have := HZX.out; have := HTB.out; omega)
              obtain ⟨y0, y1, y2, f0, f1, f2⟩ := htx.cells
              clear hbT htx hK hD HX1 HZX HTB HBX
              rcases hor with ⟨hk6, rfl⟩ | rfl
              · have h6 : decide ((k : Int) < 600) = true := decide_eq_true (by omega)
                clear hk6
                have HRx := hide (HRk.out.below HBW1.out)
                have g0 := HRx.out.cells.1
                obtain ⟨⟨nv, nb⟩, hnx⟩ : ∃ r, nextG from_ s = r := ⟨_, rfl⟩
                have HN1 := hide (next_any from_ s hf hs WX1)
                have HN2 := hide (refnext_any from_ s hf hs WX1)
                unfold SamePost at HN1
                unfold ValPost at HN2
                rw [hnx] at HN1 HN2
                clear hnx
                gi_wp2_with fail
                rw [roundsIn_succ]
                clear y0 y1 y2 f0 f1 f2 h6
                gi_wp2_with (first
                  | (refine ⟨trivial, ?_⟩; gi_at_call 32; refine (callsIn_wide.2 HN1.out).mono ?_; rintro e _ ⟨rfl, rfl⟩)
                  | (refine ⟨trivial, ?_⟩; gi_at_call 31; refine (callsIn_wide.2 HN2.out).mono ?_; rintro e w5 ⟨rfl, hb5⟩; have HB5 := hide hb5; have HR5 := hide (HRx.out.below hb5); clear hb5)
                  | (refine ⟨trivial, ?_⟩; gi_at_call 22; refine (callsIn_wide.2 (HKN.out _ HR5.out.bel)).mono ?_; rintro e w6 ⟨rfl, hb6⟩; have HB6 := hide (HB5.out.trans (hb6.mono HB5.out.size)); have HR6 := hide (HR5.out.below hb6); clear hb6; obtain ⟨_, _, z2, zf⟩ := HR6.out.cells))
                have HD := hide (⟨by have := HDa.out; omega, by have := HDa.out; have := HDW0.out; omega, by have := HDW1.out; have := lt_of_block HKD0.out; omega⟩ : D0 < D1 ∧ D1 < D0x ∧ D0x < D1x)
                have key : ∀ {i : Nat} {o : Obj}, i ≠ w.heap.size + 2 → WX1.heap[i]? = some o → (w6.setCell ⟨w.heap.size + 2, 0, none⟩ (.bool true)).heap[i]? = some o := fun hi ho => (Below.heap_setCell _ _ _ _ hi).trans ((HB6.out.block _ (lt_of_block ho)).trans ho)
                have hw := HDa.out.1
                have k0 := key (by have := HD.out; omega) ((HBW1.out.block _ (by have := HDa.out; omega)).trans HKa.out)
                have k1 := key (by have := HD.out; omega) ((HBW1.out.block _ (by have := HDa.out; omega)).trans HKb.out)
                have k2 := key (by have := HD.out; omega) ((HTW1.out.block _ (lt_of_block HKD0.out)).trans HKD0.out)
                have k3 := key (by have := HD.out; omega) HKD1.out
                exact ask_end (HR6.out.says true) hw HD.out.1 HD.out.2.1 HD.out.2.2 k0 k1 k2 k3 (fun W' h => by simp [results, Tryd.results6, go_sem, h])
              · have h6 : decide (((600 : Nat) : Int) < 600) = false := decide_eq_false (by omega)
                have HRx := hide (HRk.out.below HBW1.out)
                have g0 := HRx.out.cells.1
                obtain ⟨⟨nv, nb⟩, hnx⟩ : ∃ r, nextG from_ s = r := ⟨_, rfl⟩
                have HN1 := hide (next_any from_ s hf hs WX1)
                have HN2 := hide (refnext_any from_ s hf hs WX1)
                unfold SamePost at HN1
                unfold ValPost at HN2
                rw [hnx] at HN1 HN2
                clear hnx
                gi_wp2_with fail
                rw [roundsIn_succ]
                clear y0 y1 y2 f0 f1 f2 h6
                gi_wp2_with (first
                  | (refine ⟨trivial, ?_⟩; gi_at_call 32; refine (callsIn_wide.2 HN1.out).mono ?_; rintro e _ ⟨rfl, rfl⟩)
                  | (refine ⟨trivial, ?_⟩; gi_at_call 31; refine (callsIn_wide.2 HN2.out).mono ?_; rintro e w5 ⟨rfl, hb5⟩; have HB5 := hide hb5; have HR5 := hide (HRx.out.below hb5); clear hb5)
                  | (refine ⟨trivial, ?_⟩; gi_at_call 22; refine (callsIn_wide.2 (HKN.out _ HR5.out.bel)).mono ?_; rintro e w6 ⟨rfl, hb6⟩; have HB6 := hide (HB5.out.trans (hb6.mono HB5.out.size)); have HR6 := hide (HR5.out.below hb6); clear hb6; obtain ⟨_, _, z2, zf⟩ := HR6.out.cells))
                have HD := hide (⟨by have := HDa.out; omega, by have := HDa.out; have := HDW0.out; omega, by have := HDW1.out; have := lt_of_block HKD0.out; omega⟩ : D0 < D1 ∧ D1 < D0x ∧ D0x < D1x)
                have key : ∀ {i : Nat} {o : Obj}, i ≠ w.heap.size + 2 → WX1.heap[i]? = some o → (w6.setCell ⟨w.heap.size + 2, 0, none⟩ (.bool true)).heap[i]? = some o := fun hi ho => (Below.heap_setCell _ _ _ _ hi).trans ((HB6.out.block _ (lt_of_block ho)).trans ho)
                have hw := HDa.out.1
                have k0 := key (by have := HD.out; omega) ((HBW1.out.block _ (by have := HDa.out; omega)).trans HKa.out)
                have k1 := key (by have := HD.out; omega) ((HBW1.out.block _ (by have := HDa.out; omega)).trans HKb.out)
                have k2 := key (by have := HD.out; omega) ((HTW1.out.block _ (lt_of_block HKD0.out)).trans HKD0.out)
                have k3 := key (by have := HD.out; omega) HKD1.out
                exact ask_end (HR6.out.says true) hw HD.out.1 HD.out.2.1 HD.out.2.2 k0 k1 k2 k3 (fun W' h => by simp [results, Tryd.results6, go_sem, h])
          · have h6 : decide (((600 : Nat) : Int) < 600) = false := decide_eq_false (by omega)
            gi_wp2_with fail
            rw [roundsIn_succ]
            have HX1 := hide (TurnX.start WX0)
            clear y0 y1 y2 f0 f1 f2 h6
            gi_wp2_with fail
            have HBX := HBW0
            have HZX : Hid (((((WX0.alloc (.cells #[.int .i64 0] 3)).alloc (.cells #[.int .u32 0] 25)).alloc (.cells #[.bool true] 4))).heap.size = WX0.heap.size + 3) := hide (by simp)
            generalize ((WX0.alloc (.cells #[.int .i64 0] 3)).alloc (.cells #[.int .u32 0] 25)).alloc (.cells #[.bool true] 4) = wx1 at *
            obtain ⟨tb, htb⟩ : ∃ tb, tb = WX0.heap.size := ⟨_, rfl⟩
            have HTB : Hid (tb = WX0.heap.size) := hide htb
            rw [← HTB.out] at HX1 HZX
            rw [← htb]
            clear htb
            refine wpIn_rangeCut (α := Nat) (encs := encG) (E := fun pre x => ChainTo s pre x) (S := fun xs => ∃ pre x, xs = pre ++ [x] ∧ ChainTo s pre x ∧ (nextG x s).2 = false) (Sp := fun xs => ∃ pre x, xs = pre ++ [x] ∧ ChainTo s pre x) (gf := 51) (lb := #[.pointer (some ⟨w1.heap.size + 1, 0, none⟩)]) rfl (enters_of Tryd.func51 (by kernel_rfl) rfl) (fun i => i = tb ∨ i = tb + 1 ∨ i = tb + 2)
              (fun h => by have := HZX.out; omega) (fun h => by have := HZX.out; omega)
              (fun W hb hz => subs_seq hs ((hb.block _ (by have := lt_of_block HQk.out; have := HBX.out.size; have := HZX.out; have := HTB.out; omega)).trans ((HX1.out.bel.block _ (by have := lt_of_block HQk.out; have := HBX.out.size; omega)).trans ((HBX.out.block _ (lt_of_block HQk.out)).trans HQk.out)))
                (fun h => by have := lt_of_block HQk.out; have := HBX.out.size; have := HZX.out; have := HTB.out; omega)) (fun _ => rfl)
              6 (fun pre W' => ∃ a m, pre.length < 600 ∧ AtX s pre a m ∧ TurnX WX0 tb pre.length a m W') (fun pre W' => ∃ a m, pre.length = 600 ∧ TurnX WX0 tb pre.length a m W')
              (fun W' => ∃ (k a : Nat) (m : Bool), ((k < 600 ∧ m = false) ∨ k = 600) ∧ TurnX WX0 tb k a m W')
              (fun s' X Y row hs' hg hr => by obtain ⟨a, m, h1, h2, h3⟩ := hs'; exact ⟨a, m, h1, h2, h3.own (S := wx1.heap.size) (by have := HZX.out; omega) hg (fun r e => (hr r e).1)⟩) (fun s' X Y row hs' hg hr => by obtain ⟨a, m, h1, h3⟩ := hs'; exact ⟨a, m, h1, h3.own (S := wx1.heap.size) (by have := HZX.out; omega) hg (fun r e => (hr r e).1)⟩) ⟨0, true, by decide, .inl ⟨rfl, rfl, rfl⟩, HX1.out⟩
              ?a2_x3 7 ?assign_x3 ?body_x3 ?r_x3 ?rx_x3 (fun _ _ h => h) ?rest_x3
            case assign_x3 =>
              rintro l' pre x W' K he hK
              clear he
              simp only [encG]
              gi_wp2
              exact hK
            case r_x3 =>
              rintro xs W' ⟨q, x, rfl, hc, hn⟩ ⟨a, m, h1, h2, h3⟩
              refine ⟨_, a, m, .inl ⟨h1, ?_⟩, h3⟩
              rcases h2 with ⟨h, _⟩ | ⟨q', y, h, hn'⟩
              · exact absurd h (by simp)
              · obtain ⟨_, hy⟩ := List.append_inj' h rfl
                injection hy with hy _
                subst hy
                rw [hn'] at hn
                exact hn
            case rx_x3 =>
              rintro pre W' _ ⟨a, m, h1, h3⟩
              exact ⟨_, a, m, .inr h1, h3⟩
            case body_x3 =>
              rintro l' pre x Wr ⟨a, m, hlt, hat, htx⟩ hE hsz
              obtain ⟨rfl, rfl⟩ := hat.chain hE
              have hx32 := (hE.lt hs).1
              obtain ⟨k, hk⟩ : ∃ k, k = pre.length := ⟨_, rfl⟩
              rw [← hk] at hlt htx
              have HTX := hide htx
              have HLN : Hid ((pre ++ [a]).length = k + 1) := hide (by rw [List.length_append, ← hk]; rfl)
              obtain ⟨⟨nv, nb⟩, hnx⟩ : ∃ r, nextG a s = r := ⟨_, rfl⟩
              have HAT : Hid (AtX s (pre ++ [a]) nv nb) := hide (.inr ⟨pre, a, rfl, hnx⟩)
              have HNX := hide (refnext_any a s hx32 hs Wr)
              unfold ValPost at HNX
              rw [hnx] at HNX
              have g0 := (HRk.out.below (HBX.out.trans (htx.bel.mono HBX.out.size))).cells.1
              obtain ⟨y0, y1, y2, f0, f1, f2⟩ := htx.cells
              have hwk : IntKind.i64.wrap ((k : Int) + 1) = (k : Int) + 1 := Go.IntWalk.i64_in _ (by omega)
              have hkk : ((k + 1 : Nat) : Int) = (k : Int) + 1 := by omega
              clear htx hE hsz hk hat hnx
              have HK600 : Hid (k + 1 < 600 ∨ k + 1 = 600) := hide (by omega)
              by_cases h600 : k + 1 = 600
              · have e600 : ((k : Int) + 1 == 600) = true := by rw [beq_iff_eq]; omega
                have HE6 := hide h600
                clear h600
                gi_wp2_with (refine ⟨trivial, ?_⟩; gi_at_call 31; refine (callsIn_in HNX.out).mono ?_; rintro e W4 ⟨rfl, hb4⟩; have HT4 := hide (HTX.out.below hb4); have HX4 : Hid (OutP (fun i => i = tb ∨ i = tb + 1 ∨ i = tb + 2) Wr W4) := hide (OutP.of_below hb4); clear hb4 y0 y1 y2 f0 f1 f2 HNX; obtain ⟨y0, y1, y2, f0, f1, f2⟩ := HT4.out.cells)
                have HX8 := ((HX4.out.set ⟨tb + 1, 0, none⟩ (.inr (.inl rfl)) (.int .u32 (nv : Int))).set ⟨tb + 1 + 1, 0, none⟩ (.inr (.inr rfl)) (.bool nb)).set ⟨tb, 0, none⟩ (.inl rfl) (.int .i64 ((k : Int) + 1))
                have HT8 := ((HT4.out.setA nv).setM nb).setK (pre ++ [a]).length
                rw [show (((pre ++ [a]).length : Nat) : Int) = (k : Int) + 1 by rw [HLN.out]; exact hkk] at HT8
                have h9 : (pre ++ [a]).length = 600 := by rw [HLN.out]; exact HE6.out
                first
                  | exact ⟨HX8, ⟨nv, nb, h9, HT8⟩⟩
                  | exact ⟨HX8, rfl, ⟨nv, nb, h9, HT8⟩⟩
              · have e600 : ((k : Int) + 1 == 600) = false := by rw [beq_eq_false_iff_ne]; omega
                have HE6 : Hid (k + 1 < 600) := hide (by omega)
                clear h600
                gi_wp2_with (refine ⟨trivial, ?_⟩; gi_at_call 31; refine (callsIn_in HNX.out).mono ?_; rintro e W4 ⟨rfl, hb4⟩; have HT4 := hide (HTX.out.below hb4); have HX4 : Hid (OutP (fun i => i = tb ∨ i = tb + 1 ∨ i = tb + 2) Wr W4) := hide (OutP.of_below hb4); clear hb4 y0 y1 y2 f0 f1 f2 HNX; obtain ⟨y0, y1, y2, f0, f1, f2⟩ := HT4.out.cells)
                have HX8 := ((HX4.out.set ⟨tb + 1, 0, none⟩ (.inr (.inl rfl)) (.int .u32 (nv : Int))).set ⟨tb + 1 + 1, 0, none⟩ (.inr (.inr rfl)) (.bool nb)).set ⟨tb, 0, none⟩ (.inl rfl) (.int .i64 ((k : Int) + 1))
                have HT8 := ((HT4.out.setA nv).setM nb).setK (pre ++ [a]).length
                rw [show (((pre ++ [a]).length : Nat) : Int) = (k : Int) + 1 by rw [HLN.out]; exact hkk] at HT8
                have h9 : (pre ++ [a]).length < 600 := by rw [HLN.out]; exact HE6.out
                exact ⟨HX8, ⟨nv, nb, h9, HAT.out, HT8⟩⟩
            case rest_x3 =>
              rintro D1x WX1 hD ⟨k, a, m, hor, htx⟩ hK
              have hbT : Below wk.heap.size wk WX1 := HBX.out.trans (htx.bel.mono HBX.out.size)
              have HBW1 := hide hbT
              have HKD1 := hide hK
              have HTW1 := hide htx.bel
              have HDW1 : Hid (WX0.heap.size ≤ D1x) := hide (by have := HZX.out; have := HTB.out; omega)
              obtain ⟨y0, y1, y2, f0, f1, f2⟩ := htx.cells
              clear hbT htx hK hD HX1 HZX HTB HBX
              rcases hor with ⟨hk6, rfl⟩ | rfl
              · have h6 : decide ((k : Int) < 600) = true := decide_eq_true (by omega)
                clear hk6
                have HRx := hide (HRk.out.below HBW1.out)
                have g0 := HRx.out.cells.1
                obtain ⟨⟨nv, nb⟩, hnx⟩ : ∃ r, nextG from_ s = r := ⟨_, rfl⟩
                have HN1 := hide (next_any from_ s hf hs WX1)
                have HN2 := hide (refnext_any from_ s hf hs WX1)
                unfold SamePost at HN1
                unfold ValPost at HN2
                rw [hnx] at HN1 HN2
                clear hnx
                gi_wp2_with fail
                rw [roundsIn_succ]
                clear y0 y1 y2 f0 f1 f2 h6
                gi_wp2_with (first
                  | (refine ⟨trivial, ?_⟩; gi_at_call 32; refine (callsIn_wide.2 HN1.out).mono ?_; rintro e _ ⟨rfl, rfl⟩)
                  | (refine ⟨trivial, ?_⟩; gi_at_call 31; refine (callsIn_wide.2 HN2.out).mono ?_; rintro e w5 ⟨rfl, hb5⟩; have HB5 := hide hb5; have HR5 := hide (HRx.out.below hb5); clear hb5)
                  | (refine ⟨trivial, ?_⟩; gi_at_call 22; refine (callsIn_wide.2 (HKN.out _ HR5.out.bel)).mono ?_; rintro e w6 ⟨rfl, hb6⟩; have HB6 := hide (HB5.out.trans (hb6.mono HB5.out.size)); have HR6 := hide (HR5.out.below hb6); clear hb6; obtain ⟨_, _, z2, zf⟩ := HR6.out.cells))
                have HD := hide (⟨by have := HDa.out; omega, by have := HDa.out; have := HDW0.out; omega, by have := HDW1.out; have := lt_of_block HKD0.out; omega⟩ : D0 < D1 ∧ D1 < D0x ∧ D0x < D1x)
                have key : ∀ {i : Nat} {o : Obj}, i ≠ w.heap.size + 2 → WX1.heap[i]? = some o → (w6.setCell ⟨w.heap.size + 2, 0, none⟩ (.bool true)).heap[i]? = some o := fun hi ho => (Below.heap_setCell _ _ _ _ hi).trans ((HB6.out.block _ (lt_of_block ho)).trans ho)
                have hw := HDa.out.1
                have k0 := key (by have := HD.out; omega) ((HBW1.out.block _ (by have := HDa.out; omega)).trans HKa.out)
                have k1 := key (by have := HD.out; omega) ((HBW1.out.block _ (by have := HDa.out; omega)).trans HKb.out)
                have k2 := key (by have := HD.out; omega) ((HTW1.out.block _ (lt_of_block HKD0.out)).trans HKD0.out)
                have k3 := key (by have := HD.out; omega) HKD1.out
                exact ask_end (HR6.out.says true) hw HD.out.1 HD.out.2.1 HD.out.2.2 k0 k1 k2 k3 (fun W' h => by simp [results, Tryd.results6, go_sem, h])
              · have h6 : decide (((600 : Nat) : Int) < 600) = false := decide_eq_false (by omega)
                have HRx := hide (HRk.out.below HBW1.out)
                have g0 := HRx.out.cells.1
                obtain ⟨⟨nv, nb⟩, hnx⟩ : ∃ r, nextG from_ s = r := ⟨_, rfl⟩
                have HN1 := hide (next_any from_ s hf hs WX1)
                have HN2 := hide (refnext_any from_ s hf hs WX1)
                unfold SamePost at HN1
                unfold ValPost at HN2
                rw [hnx] at HN1 HN2
                clear hnx
                gi_wp2_with fail
                rw [roundsIn_succ]
                clear y0 y1 y2 f0 f1 f2 h6
                gi_wp2_with (first
                  | (refine ⟨trivial, ?_⟩; gi_at_call 32; refine (callsIn_wide.2 HN1.out).mono ?_; rintro e _ ⟨rfl, rfl⟩)
                  | (refine ⟨trivial, ?_⟩; gi_at_call 31; refine (callsIn_wide.2 HN2.out).mono ?_; rintro e w5 ⟨rfl, hb5⟩; have HB5 := hide hb5; have HR5 := hide (HRx.out.below hb5); clear hb5)
                  | (refine ⟨trivial, ?_⟩; gi_at_call 22; refine (callsIn_wide.2 (HKN.out _ HR5.out.bel)).mono ?_; rintro e w6 ⟨rfl, hb6⟩; have HB6 := hide (HB5.out.trans (hb6.mono HB5.out.size)); have HR6 := hide (HR5.out.below hb6); clear hb6; obtain ⟨_, _, z2, zf⟩ := HR6.out.cells))
                have HD := hide (⟨by have := HDa.out; omega, by have := HDa.out; have := HDW0.out; omega, by have := HDW1.out; have := lt_of_block HKD0.out; omega⟩ : D0 < D1 ∧ D1 < D0x ∧ D0x < D1x)
                have key : ∀ {i : Nat} {o : Obj}, i ≠ w.heap.size + 2 → WX1.heap[i]? = some o → (w6.setCell ⟨w.heap.size + 2, 0, none⟩ (.bool true)).heap[i]? = some o := fun hi ho => (Below.heap_setCell _ _ _ _ hi).trans ((HB6.out.block _ (lt_of_block ho)).trans ho)
                have hw := HDa.out.1
                have k0 := key (by have := HD.out; omega) ((HBW1.out.block _ (by have := HDa.out; omega)).trans HKa.out)
                have k1 := key (by have := HD.out; omega) ((HBW1.out.block _ (by have := HDa.out; omega)).trans HKb.out)
                have k2 := key (by have := HD.out; omega) ((HTW1.out.block _ (lt_of_block HKD0.out)).trans HKD0.out)
                have k3 := key (by have := HD.out; omega) HKD1.out
                exact ask_end (HR6.out.says true) hw HD.out.1 HD.out.2.1 HD.out.2.2 k0 k1 k2 k3 (fun W' h => by simp [results, Tryd.results6, go_sem, h])
set_option maxRecDepth 100000 in
set_option maxHeartbeats 8000000 in
theorem eachLaw_neg (s from_ : Nat) (hs : s < 4294967296) (hf : from_ < 4294967296) (lv : Int) (hlv : -9223372036854775808 ≤ lv ∧ lv ≤ 9223372036854775807) (hsg : ¬ 0 < lv) (w : World) (hT : TabW w) (hM : MlW w) :
    Calls Tryd.prog 6 #[.int .u32 (s : Int), .int .u32 (from_ : Int), .int .i64 lv] w (ValPost (.bool true) w) := by
  have HT := hide hT
  have csg : decide ((0 : Int) < lv) = false := decide_eq_false (by omega)
  have csg2 : decide (lv ≤ (0 : Int)) = true := decide_eq_true (by omega)
  have HKN := hide (fun W (hb : Below w.heap.size w W) => known_any W (hT.below hb) (hM.below hb))
  have HSU := hide (fun W => subsets_any s W)
  have HEA := hide (fun W => each_any s W)
  have HRE := hide (fun W => refeach_any s hs W)
  unfold EachP at HRE
  have hel := eachL_len s
  have HEL := hide (each_eachL s hs)
  obtain ⟨L, hL⟩ : ∃ L, eachL s = L := ⟨_, rfl⟩
  rw [hL] at HRE hel HEL
  clear hT hM hL
  refine (callsIn_wide (n := 9)).1 ?_
  refine callsIn_of_wp_marks Tryd.func6 rfl trivial ?_ rfl
  simp only [Tryd.ntmps6, List.size_toArray, List.length_cons, List.length_nil, Nat.reduceAdd, Nat.reduceSub, Array.replicate_succ, Array.replicate_zero, List.push_toArray, List.append_toArray, List.nil_append, List.cons_append]
  gi_wp2_with fail
  have HR1 := hide (AskE.start w s lv)
  generalize ((w.alloc (.cells #[.int .u32 (s : Int)] 25)).alloc (.cells #[.int .i64 lv] 3)).alloc (.cells #[.bool false] 4) = w1 at *
  obtain ⟨x0, _, _, _⟩ := HR1.out.cells
  refine wpIn_mono (Q := fun e a W => e = .normal ∧ a = { tmps := #[.int .u32 (s : Int), .int .u32 (from_ : Int), .int .i64 lv, .pointer (some ⟨w.heap.size, 0, none⟩), undef, .pointer (some ⟨w.heap.size + 1, 0, none⟩), .pointer (some ⟨w.heap.size + 1 + 1, 0, none⟩), .func (.func 49) #[] #[.pointer (some ⟨w1.heap.size, 0, none⟩)], .func (.func 51) #[] #[.pointer (some ⟨w1.heap.size + 1, 0, none⟩)], undef, undef, undef, undef, undef, undef, undef, undef, undef, undef, undef, undef, undef, .int .u32 (s : Int), .func (.func 49) #[] #[.pointer (some ⟨w1.heap.size, 0, none⟩)], .int .u32 (s : Int), .func (.func 51) #[] #[.pointer (some ⟨w1.heap.size + 1, 0, none⟩)], undef, undef, undef, undef, undef, undef, undef, undef, undef, undef, undef, undef, undef, undef, undef, undef, undef, undef, undef, undef, undef, undef, undef, undef, undef, undef, undef, undef, undef, undef, undef, undef, undef, undef, undef, undef, undef, undef, undef, undef, undef, undef, undef, undef, undef, undef, undef, undef, undef, undef, undef, undef, undef, undef, undef, undef, undef, undef, undef, undef, undef, undef, undef, undef, undef, undef, undef, undef, undef, undef, undef, undef, undef, undef, undef, undef, undef, undef, undef, undef, undef, undef, undef, undef, undef, undef, undef, undef, undef, undef, undef, undef, undef, undef, undef, undef, undef, undef, undef, undef, undef, undef, undef, undef, undef, undef, undef, undef, undef, undef, undef, undef, undef, undef, undef], defers := [] } ∧ R1P w w1 s lv W) ?r1 ?go1
  case r1 =>
    have a0 : (w1.alloc (.cells #[.int .u32 (s : Int)] 25)).cell? ⟨w.heap.size, 0, none⟩ = some (.int .u32 (s : Int)) := (HR1.out.below ((Below.refl _ _).alloc (Nat.le_refl _) _)).cells.1
    refine wpIn_region_any (by kernel_rfl) ?_
    refine wpAnyIn_ready (rs := [0, 2]) (by kernel_rfl) (by simp) ?_
    refine AllReadyIn.cons rfl (fun K hK => ?_) (AllReadyIn.cons rfl (fun K hK => ?_) AllReadyIn.nil)
    · go_simp
      refine hK _ _ ?_
      clear hK K
      refine wpAnyIn_ready (rs := [1, 2]) (by kernel_rfl) (by simp) ?_
      refine AllReadyIn.cons rfl (fun K hK => ?_) (AllReadyIn.cons rfl (fun K hK => ?_) AllReadyIn.nil)
      · go_simp
        refine ⟨trivial, ?_⟩
        refine (callsIn_wide.2 (HEA.out _)).mono ?_
        rintro e W3 ⟨rfl, rfl⟩
        refine hK _ _ ?_
        clear hK K
        refine wpAnyIn_ready (rs := [2]) (by kernel_rfl) (by simp) ?_
        refine AllReadyIn.cons rfl (fun K hK => ?_) AllReadyIn.nil
        go_simp
        refine hK _ _ ?_
        clear hK K
        refine wpAnyIn_ready (rs := [3]) (by kernel_rfl) (by simp) ?_
        refine AllReadyIn.cons rfl (fun K hK => ?_) AllReadyIn.nil
        go_simp
        refine ⟨trivial, ?_⟩
        refine (callsIn_wide.2 (HSU.out _)).mono ?_
        rintro e W3 ⟨rfl, rfl⟩
        refine hK _ _ ?_
        clear hK K
        refine wpAnyIn_ready (rs := [4]) (by kernel_rfl) (by simp) ?_
        refine AllReadyIn.cons rfl (fun K hK => ?_) AllReadyIn.nil
        go_simp
        refine hK _ _ ?_
        clear hK K
        refine wpAnyIn_ready (rs := [5]) (by kernel_rfl) (by simp) ?_
        refine AllReadyIn.cons rfl (fun K hK => ?_) AllReadyIn.nil
        go_simp
        refine hK _ _ ?_
        clear hK K
        refine wpAnyIn_done (by kernel_rfl) ?_ _
        exact ⟨rfl, by simp, r1_fact HR1.out _ rfl⟩
      · go_simp
        refine hK _ _ ?_
        clear hK K
        refine wpAnyIn_ready (rs := [1]) (by kernel_rfl) (by simp) ?_
        refine AllReadyIn.cons rfl (fun K hK => ?_) AllReadyIn.nil
        go_simp
        refine ⟨trivial, ?_⟩
        refine (callsIn_wide.2 (HEA.out _)).mono ?_
        rintro e W3 ⟨rfl, rfl⟩
        refine hK _ _ ?_
        clear hK K
        refine wpAnyIn_ready (rs := [3]) (by kernel_rfl) (by simp) ?_
        refine AllReadyIn.cons rfl (fun K hK => ?_) AllReadyIn.nil
        go_simp
        refine ⟨trivial, ?_⟩
        refine (callsIn_wide.2 (HSU.out _)).mono ?_
        rintro e W3 ⟨rfl, rfl⟩
        refine hK _ _ ?_
        clear hK K
        refine wpAnyIn_ready (rs := [4]) (by kernel_rfl) (by simp) ?_
        refine AllReadyIn.cons rfl (fun K hK => ?_) AllReadyIn.nil
        go_simp
        refine hK _ _ ?_
        clear hK K
        refine wpAnyIn_ready (rs := [5]) (by kernel_rfl) (by simp) ?_
        refine AllReadyIn.cons rfl (fun K hK => ?_) AllReadyIn.nil
        go_simp
        refine hK _ _ ?_
        clear hK K
        refine wpAnyIn_done (by kernel_rfl) ?_ _
        exact ⟨rfl, by simp, r1_fact HR1.out _ rfl⟩
    · go_simp
      refine hK _ _ ?_
      clear hK K
      refine wpAnyIn_ready (rs := [0]) (by kernel_rfl) (by simp) ?_
      refine AllReadyIn.cons rfl (fun K hK => ?_) AllReadyIn.nil
      go_simp
      refine hK _ _ ?_
      clear hK K
      refine wpAnyIn_ready (rs := [1]) (by kernel_rfl) (by simp) ?_
      refine AllReadyIn.cons rfl (fun K hK => ?_) AllReadyIn.nil
      go_simp
      refine ⟨trivial, ?_⟩
      refine (callsIn_wide.2 (HEA.out _)).mono ?_
      rintro e W3 ⟨rfl, rfl⟩
      refine hK _ _ ?_
      clear hK K
      refine wpAnyIn_ready (rs := [3]) (by kernel_rfl) (by simp) ?_
      refine AllReadyIn.cons rfl (fun K hK => ?_) AllReadyIn.nil
      go_simp
      refine ⟨trivial, ?_⟩
      refine (callsIn_wide.2 (HSU.out _)).mono ?_
      rintro e W3 ⟨rfl, rfl⟩
      refine hK _ _ ?_
      clear hK K
      refine wpAnyIn_ready (rs := [4]) (by kernel_rfl) (by simp) ?_
      refine AllReadyIn.cons rfl (fun K hK => ?_) AllReadyIn.nil
      go_simp
      refine hK _ _ ?_
      clear hK K
      refine wpAnyIn_ready (rs := [5]) (by kernel_rfl) (by simp) ?_
      refine AllReadyIn.cons rfl (fun K hK => ?_) AllReadyIn.nil
      go_simp
      refine hK _ _ ?_
      clear hK K
      refine wpAnyIn_done (by kernel_rfl) ?_ _
      exact ⟨rfl, by simp, r1_fact HR1.out _ rfl⟩
  case go1 =>
    rintro e a w2 ⟨rfl, rfl, hp⟩
    obtain ⟨h1, h2, h3⟩ := hp
    have HR2 := hide h1
    have HE2 := hide h2
    have HQ2 := hide h3
    have hfe : ∀ (W : World), (binOp .eql 56 (.func (.func 49) #[] #[.pointer (some ⟨w1.heap.size, 0, none⟩)]) .nilFunc).run Tryd.prog W = .ok (.bool false) W := fun _ => rfl
    have hfs : ∀ (W : World), (binOp .eql 59 (.func (.func 51) #[] #[.pointer (some ⟨w1.heap.size + 1, 0, none⟩)]) .nilFunc).run Tryd.prog W = .ok (.bool false) W := fun _ => rfl
    clear h1 h2 h3 HR1 x0
    obtain ⟨x0, _, _, _⟩ := HR2.out.cells
    gi_wp2_with (refine ⟨trivial, ?_⟩; gi_at_call 21; refine (callsIn_wide.2 (HRE.out w2)).mono ?_; rintro e w3 ⟨A, c, rfl, hone, hb3⟩; have HO3 := hide hone; have HR3 := hide (HR2.out.below hb3); have HE3 := hide ((hb3.block _ (lt_of_block HE2.out)).trans HE2.out); have HQ3 := hide ((hb3.block _ (lt_of_block HQ2.out)).trans HQ2.out); have HB3 := hide (HR3.out.bel); clear hone hb3 x0)
    have HB4 : Hid (Below w3.heap.size w3 (w3.alloc (.cells #[.slice A L.length c] 22))) := hide ((Below.refl _ _).alloc (Nat.le_refl _) _)
    have HK4 : Hid ((w3.alloc (.cells #[.slice A L.length c] 22)).heap[w3.heap.size]? = some (.cells #[.slice A L.length c] 22 (0, 0))) := hide (heap_alloc_new w3 _)
    have HR4 := hide (HR3.out.below HB4.out)
    have HS0 := hide (TurnI.start (w3.alloc (.cells #[.slice A L.length c] 22)) 0)
    refine wpIn_loop_rounds 3 ?_
    rw [roundsIn_succ]
    gi_wp2_with fail
    have HZ4 : Hid (w3.heap.size + 1 = (w3.alloc (.cells #[.slice A L.length c] 22)).heap.size) := hide (by simp)
    generalize w3.alloc (.cells #[.slice A L.length c] 22) = w4 at *
    have HBB : Hid (Below w4.heap.size w4 w4) := hide (Below.refl _ _)
    generalize (w4.alloc (.cells #[.int .i64 0] 3)).alloc (.cells #[.int .i64 0] 3) = ws0 at *
    obtain ⟨tc, htc⟩ : ∃ tc, tc = w3.heap.size + 1 := ⟨_, rfl⟩
    have HTC : Hid (tc = w4.heap.size) := hide (by rw [htc]; exact HZ4.out)
    have HZT : Hid (ws0.heap.size = tc + 2) := hide (by rw [HTC.out]; exact HS0.out.2)
    have HTI := hide HS0.out.1
    rw [← HTC.out] at HTI
    rw [← htc]
    clear htc
    refine wpIn_rangeCut (α := Fin 32) (encs := encE) (E := fun pre y => pre ++ [y] <+: eachF 33 s) (S := fun xs => xs = eachF 33 s) (Sp := fun pre => pre <+: eachF 33 s) (gf := 49) (lb := #[.pointer (some ⟨w1.heap.size, 0, none⟩)]) rfl (enters_of Tryd.func49 (by kernel_rfl) rfl) (fun i => i = tc + 1)
      (fun h => by have := HZT.out; omega) (fun h => by have := HZT.out; omega)
      (fun W hb hz => each_seq hs ((hb.block _ (by have := lt_of_block HE3.out; have := HB4.out.size; have := HBB.out.size; have := HZT.out; have := HTC.out; omega)).trans ((HTI.out.bel.block _ (by have := lt_of_block HE3.out; have := HB4.out.size; have := HBB.out.size; omega)).trans ((HBB.out.block _ (by have := lt_of_block HE3.out; have := HB4.out.size; omega)).trans ((HB4.out.block _ (lt_of_block HE3.out)).trans HE3.out))))
        (HT.out.below (HR3.out.bel.trans ((HB4.out.trans ((HBB.out.trans (HTI.out.bel.mono HBB.out.size)).mono HB4.out.size)).mono HR3.out.bel.size |>.trans (hb.mono (by have := HR3.out.bel.size; have := HB4.out.size; have := HBB.out.size; have := HZT.out; have := HTC.out; omega)))))
        (fun h => by have := HT.out.lt; have := HR3.out.bel.size; have := HB4.out.size; have := HBB.out.size; have := HZT.out; have := HTC.out; rcases h with h | h <;> omega)) (fun _ => rfl)
      2 (fun pre W' => OnE 0 lv pre.length ∧ TurnI w4 tc (tc + 1) 0 pre.length W') (fun pre W' => LeftE 0 lv pre.length ∧ TurnI w4 tc (tc + 1) 0 pre.length W')
      (fun W' => ∃ k : Nat, k ≤ 32 ∧ CountE 0 lv L.length k ∧ TurnI w4 tc (tc + 1) 0 k W')
      (fun s' X Y row hs' hg hr => ⟨hs'.1, hs'.2.own (S := ws0.heap.size) (by have := HZT.out; omega) (by have := HZT.out; omega) hg (fun r e => (hr r e).1)⟩) (fun s' X Y row hs' hg hr => ⟨hs'.1, hs'.2.own (S := ws0.heap.size) (by have := HZT.out; omega) (by have := HZT.out; omega) hg (fun r e => (hr r e).1)⟩) ⟨fun _ h => h, HTI.out⟩
      ?a1_0 7 ?assign_0 ?body_0 ?r_0 ?rx_0 (fun _ _ h => h) ?rest_0
    case assign_0 =>
      rintro l' pre x W' K he hK
      clear he
      simp only [encE]
      gi_wp2
      exact hK
    case r_0 =>
      rintro xs W' rfl ⟨h1, h2⟩
      have hlen : (eachF 33 s).length = L.length := by rw [← HEL.out, List.length_map]
      refine ⟨_, by omega, ?_, h2⟩
      unfold CountE
      split
      · rename_i hc
        have := h1 hc.1 hc.2
        omega
      · omega
    case rx_0 =>
      rintro pre W' hpre ⟨⟨h0, h3, h1⟩, h2⟩
      have hlen : (eachF 33 s).length = L.length := by rw [← HEL.out, List.length_map]
      have := hpre.length_le
      refine ⟨_, by omega, ?_, h2⟩
      unfold CountE
      rw [if_pos ⟨h0, by omega⟩]
      omega
    case body_0 =>
      rintro l' pre x Wr ⟨hlt, hti⟩ hE hsz
      obtain ⟨k, hk⟩ : ∃ k, k = pre.length := ⟨_, rfl⟩
      rw [← hk] at hlt hti
      have HLT := hide hlt
      have HT0 := hide hti
      have HLN : Hid ((pre ++ [x]).length = k + 1) := hide (by rw [List.length_append, ← hk]; rfl)
      have HW4 : Hid (Below w3.heap.size w3 Wr) := hide (HB4.out.trans ((HBB.out.trans (hti.bel.mono HBB.out.size)).mono HB4.out.size))
      have hkx : L[k]? = some x.val := by
        obtain ⟨r, hr⟩ := hE
        rw [← HEL.out, List.getElem?_map, ← hr, hk, List.append_assoc, List.getElem?_append_right (Nat.le_refl _), Nat.sub_self]
        rfl
      have hkl : k < L.length := (List.getElem?_eq_some_iff.1 hkx).1
      obtain ⟨bb, bo, hA, hbB, hcc⟩ := One.at_ (HO3.out.up HW4.out) (by omega)
      subst hA
      have d0 := hcc k _ hkx
      have y0 := cell_of_row Wr w3.heap.size 0 _ _ (0, 0) ((HBB.out.trans (hti.bel.mono HBB.out.size)).block _ (lt_of_block HK4.out) |>.trans HK4.out)
      obtain ⟨x10, x11, f11⟩ := hti.cells
      have hge : decide ((L.length : Int) ≤ (k : Int)) = false := decide_eq_false (by omega)
      have hki : (k : Int) < (L.length : Int) := by omega
      have hwk : IntKind.i64.wrap ((k : Int) + 1) = (k : Int) + 1 := Go.IntWalk.i64_in _ (by omega)
      have hkk : ((k + 1 : Nat) : Int) = (k : Int) + 1 := by omega
      have HT6 := hide (HT0.out.next (k + 1))
      have HX6 : Hid (OutP (fun i => i = tc + 1) Wr _) := hide ((OutP.refl (fun i => i = tc + 1) Wr).set ⟨tc + 1, 0, none⟩ rfl (.int .i64 ((k + 1 : Nat) : Int)))
      rw [hkk] at HT6 HX6
      obtain ⟨g10, g11, _⟩ := HT6.out.cells
      rw [hkk] at g11
      have g2 := (HR4.out.below (HBB.out.trans (HT6.out.bel.mono HBB.out.size))).cells.2.1
      clear hti hE hsz hk hcc hkx hlt hkk
      by_cases hlvk : (k : Int) + 1 = lv
      · have elv : ((k : Int) + 1 == lv) = true := by rw [beq_iff_eq]; exact hlvk
        have HLV : Hid (LeftE 0 lv (pre ++ [x]).length) := hide (by rw [HLN.out]; exact ⟨rfl, by omega, by omega⟩)
        have HTT : Hid (TurnI w4 tc (tc + 1) 0 (pre ++ [x]).length _) := hide (HLN.out ▸ HT6.out)
        clear hlvk
        gi_wp2_with fail
        first
          | exact ⟨HX6.out, HLV.out, HTT.out⟩
          | exact ⟨HX6.out, rfl, HLV.out, HTT.out⟩
      · have elv : ((k : Int) + 1 == lv) = false := by rw [beq_eq_false_iff_ne]; exact hlvk
        have HLV : Hid (OnE 0 lv (pre ++ [x]).length) := hide (by rw [HLN.out]; exact fun h0 h => by have h1 := HLT.out h0 h; omega)
        have HTT : Hid (TurnI w4 tc (tc + 1) 0 (pre ++ [x]).length _) := hide (HLN.out ▸ HT6.out)
        clear hlvk
        gi_wp2_with fail
        exact ⟨HX6.out, HLV.out, HTT.out⟩
    case rest_0 =>
      rintro D0 WT0 hD ⟨kx, hkx, hct, hti⟩ hK
      have hbT : Below w4.heap.size w4 WT0 := HBB.out.trans (hti.bel.mono HBB.out.size)
      have HBW0 := hide hbT
      have HKD0 := hide hK
      have HTW0 := hide hti.bel
      have HDW0 : Hid (w4.heap.size ≤ D0) := hide (by have := HZT.out; have := HTC.out; omega)
      have y0 := cell_of_row WT0 w3.heap.size 0 _ _ (0, 0) ((hbT.block _ (lt_of_block HK4.out)).trans HK4.out)
      have g2 := (HR4.out.below hbT).cells.2.1
      obtain ⟨x10, x11, _⟩ := hti.cells
      have hkl : kx = L.length := by unfold CountE at hct; rw [if_neg (fun h => by have := h.2; omega)] at hct; exact hct
      subst hkl
      clear hbT hti hK hD hct
      gi_wp2_with fail
      rw [roundsIn_succ]
      have HS1 := hide (TurnI.start WT0 1)
      clear y0 x10 x11 g2 HZT HTI HTC
      gi_wp2_with fail
      have HBB := HBW0
      clear HS0
      generalize (WT0.alloc (.cells #[.int .i64 1] 3)).alloc (.cells #[.int .i64 0] 3) = ws1 at *
      obtain ⟨tc, htc⟩ : ∃ tc, tc = WT0.heap.size := ⟨_, rfl⟩
      have HTC : Hid (tc = WT0.heap.size) := hide (by rw [htc]; skip)
      have HZT : Hid (ws1.heap.size = tc + 2) := hide (by rw [HTC.out]; exact HS1.out.2)
      have HTI := hide HS1.out.1
      rw [← HTC.out] at HTI
      rw [← htc]
      clear htc
      refine wpIn_rangeCut (α := Fin 32) (encs := encE) (E := fun pre y => pre ++ [y] <+: eachF 33 s) (S := fun xs => xs = eachF 33 s) (Sp := fun pre => pre <+: eachF 33 s) (gf := 49) (lb := #[.pointer (some ⟨w1.heap.size, 0, none⟩)]) rfl (enters_of Tryd.func49 (by kernel_rfl) rfl) (fun i => i = tc + 1)
        (fun h => by have := HZT.out; omega) (fun h => by have := HZT.out; omega)
        (fun W hb hz => each_seq hs ((hb.block _ (by have := lt_of_block HE3.out; have := HB4.out.size; have := HBB.out.size; have := HZT.out; have := HTC.out; omega)).trans ((HTI.out.bel.block _ (by have := lt_of_block HE3.out; have := HB4.out.size; have := HBB.out.size; omega)).trans ((HBB.out.block _ (by have := lt_of_block HE3.out; have := HB4.out.size; omega)).trans ((HB4.out.block _ (lt_of_block HE3.out)).trans HE3.out))))
          (HT.out.below (HR3.out.bel.trans ((HB4.out.trans ((HBB.out.trans (HTI.out.bel.mono HBB.out.size)).mono HB4.out.size)).mono HR3.out.bel.size |>.trans (hb.mono (by have := HR3.out.bel.size; have := HB4.out.size; have := HBB.out.size; have := HZT.out; have := HTC.out; omega)))))
          (fun h => by have := HT.out.lt; have := HR3.out.bel.size; have := HB4.out.size; have := HBB.out.size; have := HZT.out; have := HTC.out; rcases h with h | h <;> omega)) (fun _ => rfl)
        2 (fun pre W' => OnE 1 lv pre.length ∧ TurnI WT0 tc (tc + 1) 1 pre.length W') (fun pre W' => LeftE 1 lv pre.length ∧ TurnI WT0 tc (tc + 1) 1 pre.length W')
        (fun W' => ∃ k : Nat, k ≤ 32 ∧ CountE 1 lv L.length k ∧ TurnI WT0 tc (tc + 1) 1 k W')
        (fun s' X Y row hs' hg hr => ⟨hs'.1, hs'.2.own (S := ws1.heap.size) (by have := HZT.out; omega) (by have := HZT.out; omega) hg (fun r e => (hr r e).1)⟩) (fun s' X Y row hs' hg hr => ⟨hs'.1, hs'.2.own (S := ws1.heap.size) (by have := HZT.out; omega) (by have := HZT.out; omega) hg (fun r e => (hr r e).1)⟩) ⟨fun _ h => h, HTI.out⟩
        ?a1_1 7 ?assign_1 ?body_1 ?r_1 ?rx_1 (fun _ _ h => h) ?rest_1
      case assign_1 =>
        rintro l' pre x W' K he hK
        clear he
        simp only [encE]
        gi_wp2
        exact hK
      case r_1 =>
        rintro xs W' rfl ⟨h1, h2⟩
        have hlen : (eachF 33 s).length = L.length := by rw [← HEL.out, List.length_map]
        refine ⟨_, by omega, ?_, h2⟩
        unfold CountE
        split
        · rename_i hc
          have := h1 hc.1 hc.2
          omega
        · omega
      case rx_1 =>
        rintro pre W' hpre ⟨⟨h0, h3, h1⟩, h2⟩
        have hlen : (eachF 33 s).length = L.length := by rw [← HEL.out, List.length_map]
        have := hpre.length_le
        refine ⟨_, by omega, ?_, h2⟩
        unfold CountE
        rw [if_pos ⟨h0, by omega⟩]
        omega
      case body_1 =>
        rintro l' pre x Wr ⟨hlt, hti⟩ hE hsz
        obtain ⟨k, hk⟩ : ∃ k, k = pre.length := ⟨_, rfl⟩
        rw [← hk] at hlt hti
        have HLT := hide hlt
        have HT0 := hide hti
        have HLN : Hid ((pre ++ [x]).length = k + 1) := hide (by rw [List.length_append, ← hk]; rfl)
        have HW4 : Hid (Below w3.heap.size w3 Wr) := hide (HB4.out.trans ((HBB.out.trans (hti.bel.mono HBB.out.size)).mono HB4.out.size))
        have hkx : L[k]? = some x.val := by
          obtain ⟨r, hr⟩ := hE
          rw [← HEL.out, List.getElem?_map, ← hr, hk, List.append_assoc, List.getElem?_append_right (Nat.le_refl _), Nat.sub_self]
          rfl
        have hkl : k < L.length := (List.getElem?_eq_some_iff.1 hkx).1
        obtain ⟨bb, bo, hA, hbB, hcc⟩ := One.at_ (HO3.out.up HW4.out) (by omega)
        subst hA
        have d0 := hcc k _ hkx
        have y0 := cell_of_row Wr w3.heap.size 0 _ _ (0, 0) ((HBB.out.trans (hti.bel.mono HBB.out.size)).block _ (lt_of_block HK4.out) |>.trans HK4.out)
        obtain ⟨x10, x11, f11⟩ := hti.cells
        have hge : decide ((L.length : Int) ≤ (k : Int)) = false := decide_eq_false (by omega)
        have hki : (k : Int) < (L.length : Int) := by omega
        have hwk : IntKind.i64.wrap ((k : Int) + 1) = (k : Int) + 1 := Go.IntWalk.i64_in _ (by omega)
        have hkk : ((k + 1 : Nat) : Int) = (k : Int) + 1 := by omega
        have HT6 := hide (HT0.out.next (k + 1))
        have HX6 : Hid (OutP (fun i => i = tc + 1) Wr _) := hide ((OutP.refl (fun i => i = tc + 1) Wr).set ⟨tc + 1, 0, none⟩ rfl (.int .i64 ((k + 1 : Nat) : Int)))
        rw [hkk] at HT6 HX6
        obtain ⟨g10, g11, _⟩ := HT6.out.cells
        rw [hkk] at g11
        have g2 := (HR4.out.below (HBB.out.trans (HT6.out.bel.mono HBB.out.size))).cells.2.1
        clear hti hE hsz hk hcc hkx hlt hkk
        have HLV : Hid (OnE 1 lv (pre ++ [x]).length) := hide (fun h => absurd h (by decide))
        have HTT : Hid (TurnI WT0 tc (tc + 1) 1 (pre ++ [x]).length _) := hide (HLN.out ▸ HT6.out)
        gi_wp2_with fail
        exact ⟨HX6.out, HLV.out, HTT.out⟩
      case rest_1 =>
        rintro D1 WT1 hD ⟨kx, hkx, hct, hti⟩ hK
        have hbT : Below w4.heap.size w4 WT1 := HBB.out.trans (hti.bel.mono HBB.out.size)
        have HBW1 := hide hbT
        have HKD1 := hide hK
        have HTW1 := hide hti.bel
        have HDW1 : Hid (WT0.heap.size ≤ D1) := hide (by have := HZT.out; have := HTC.out; omega)
        have y0 := cell_of_row WT1 w3.heap.size 0 _ _ (0, 0) ((hbT.block _ (lt_of_block HK4.out)).trans HK4.out)
        have g2 := (HR4.out.below hbT).cells.2.1
        obtain ⟨x10, x11, _⟩ := hti.cells
        have hkl : kx = L.length := by unfold CountE at hct; rw [if_neg (fun h => absurd h.1 (by decide))] at hct; exact hct
        subst hkl
        clear hbT hti hK hD hct
        gi_wp2_with fail
        rw [roundsIn_succ]
        clear y0 x10 x11 g2 HZT HTI HTC
        gi_wp2_with fail
        have HBk : Hid (Below WT1.heap.size WT1 (WT1.alloc (.cells #[.int .i64 2] 3))) := hide ((Below.refl _ _).alloc (Nat.le_refl _) _)
        refine wpIn_loop_rounds 3 ?_
        rw [roundsIn_succ]
        generalize WT1.alloc (.cells #[.int .i64 2] 3) = wk at *
        have HRk := hide (HR4.out.below (HBW1.out.trans (HBk.out.mono HBW1.out.size)))
        have HQk : Hid (wk.heap[w1.heap.size + 1]? = some (.cells #[.int .u32 (s : Int)] 25 (0, 0))) := hide ((HBk.out.block _ (by have := lt_of_block HQ3.out; have := HB4.out.size; have := HBW1.out.size; omega)).trans ((HBW1.out.block _ (by have := lt_of_block HQ3.out; have := HB4.out.size; omega)).trans ((HB4.out.block _ (lt_of_block HQ3.out)).trans HQ3.out)))
        have HDa : Hid (w.heap.size + 3 ≤ D0 ∧ D0 < D1 ∧ D1 < WT1.heap.size ∧ WT1.heap.size ≤ wk.heap.size) := hide ⟨by have := HR4.out.lt; have := HDW0.out; omega, by have := HDW1.out; have := lt_of_block HKD0.out; omega, lt_of_block HKD1.out, HBk.out.size⟩
        have HKa : Hid (wk.heap[D0]? = some (.deferred (some []))) := hide ((HBk.out.block _ (by have := HDa.out; omega)).trans ((HTW1.out.block _ (lt_of_block HKD0.out)).trans HKD0.out))
        have HKb : Hid (wk.heap[D1]? = some (.deferred (some []))) := hide ((HBk.out.block _ (lt_of_block HKD1.out)).trans HKD1.out)
        clear HR4 HBW1 HBW0 HTW1 HTW0 HBB HDW0 HDW1 HKD0 HKD1 HK4 HB4 HQ3 HE3 HBk HS1
        have HBX : Hid (Below wk.heap.size wk wk) := hide (Below.refl _ _)
        have HX0 := hide (TurnX.start wk)
        gi_wp2_with fail
        have HZX : Hid (((((wk.alloc (.cells #[.int .i64 0] 3)).alloc (.cells #[.int .u32 0] 25)).alloc (.cells #[.bool true] 4))).heap.size = wk.heap.size + 3) := hide (by simp)
        generalize ((wk.alloc (.cells #[.int .i64 0] 3)).alloc (.cells #[.int .u32 0] 25)).alloc (.cells #[.bool true] 4) = wx0 at *
        obtain ⟨tb, htb⟩ : ∃ tb, tb = wk.heap.size := ⟨_, rfl⟩
        have HTB : Hid (tb = wk.heap.size) := hide htb
        rw [← HTB.out] at HX0 HZX
        rw [← htb]
        clear htb
        refine wpIn_rangeCut (α := Nat) (encs := encG) (E := fun pre x => ChainTo s pre x) (S := fun xs => ∃ pre x, xs = pre ++ [x] ∧ ChainTo s pre x ∧ (nextG x s).2 = false) (Sp := fun xs => ∃ pre x, xs = pre ++ [x] ∧ ChainTo s pre x) (gf := 51) (lb := #[.pointer (some ⟨w1.heap.size + 1, 0, none⟩)]) rfl (enters_of Tryd.func51 (by kernel_rfl) rfl) (fun i => i = tb ∨ i = tb + 1 ∨ i = tb + 2)
          (fun h => by have := HZX.out; omega) (fun h => by have := HZX.out; omega)
          (fun W hb hz => subs_seq hs ((hb.block _ (by have := lt_of_block HQk.out; have := HBX.out.size; have := HZX.out; have := HTB.out; omega)).trans ((HX0.out.bel.block _ (by have := lt_of_block HQk.out; have := HBX.out.size; omega)).trans ((HBX.out.block _ (lt_of_block HQk.out)).trans HQk.out)))
            (fun h => by have := lt_of_block HQk.out; have := HBX.out.size; have := HZX.out; have := HTB.out; omega)) (fun _ => rfl)
          6 (fun pre W' => ∃ a m, pre.length < 600 ∧ AtX s pre a m ∧ TurnX wk tb pre.length a m W') (fun pre W' => ∃ a m, pre.length = 600 ∧ TurnX wk tb pre.length a m W')
          (fun W' => ∃ (k a : Nat) (m : Bool), ((k < 600 ∧ m = false) ∨ k = 600) ∧ TurnX wk tb k a m W')
          (fun s' X Y row hs' hg hr => by obtain ⟨a, m, h1, h2, h3⟩ := hs'; exact ⟨a, m, h1, h2, h3.own (S := wx0.heap.size) (by have := HZX.out; omega) hg (fun r e => (hr r e).1)⟩) (fun s' X Y row hs' hg hr => by obtain ⟨a, m, h1, h3⟩ := hs'; exact ⟨a, m, h1, h3.own (S := wx0.heap.size) (by have := HZX.out; omega) hg (fun r e => (hr r e).1)⟩) ⟨0, true, by decide, .inl ⟨rfl, rfl, rfl⟩, HX0.out⟩
          ?a2_x4 7 ?assign_x4 ?body_x4 ?r_x4 ?rx_x4 (fun _ _ h => h) ?rest_x4
        case assign_x4 =>
          rintro l' pre x W' K he hK
          clear he
          simp only [encG]
          gi_wp2
          exact hK
        case r_x4 =>
          rintro xs W' ⟨q, x, rfl, hc, hn⟩ ⟨a, m, h1, h2, h3⟩
          refine ⟨_, a, m, .inl ⟨h1, ?_⟩, h3⟩
          rcases h2 with ⟨h, _⟩ | ⟨q', y, h, hn'⟩
          · exact absurd h (by simp)
          · obtain ⟨_, hy⟩ := List.append_inj' h rfl
            injection hy with hy _
            subst hy
            rw [hn'] at hn
            exact hn
        case rx_x4 =>
          rintro pre W' _ ⟨a, m, h1, h3⟩
          exact ⟨_, a, m, .inr h1, h3⟩
        case body_x4 =>
          rintro l' pre x Wr ⟨a, m, hlt, hat, htx⟩ hE hsz
          obtain ⟨rfl, rfl⟩ := hat.chain hE
          have hx32 := (hE.lt hs).1
          obtain ⟨k, hk⟩ : ∃ k, k = pre.length := ⟨_, rfl⟩
          rw [← hk] at hlt htx
          have HTX := hide htx
          have HLN : Hid ((pre ++ [a]).length = k + 1) := hide (by rw [List.length_append, ← hk]; rfl)
          obtain ⟨⟨nv, nb⟩, hnx⟩ : ∃ r, nextG a s = r := ⟨_, rfl⟩
          have HAT : Hid (AtX s (pre ++ [a]) nv nb) := hide (.inr ⟨pre, a, rfl, hnx⟩)
          have HNX := hide (refnext_any a s hx32 hs Wr)
          unfold ValPost at HNX
          rw [hnx] at HNX
          have g0 := (HRk.out.below (HBX.out.trans (htx.bel.mono HBX.out.size))).cells.1
          obtain ⟨y0, y1, y2, f0, f1, f2⟩ := htx.cells
          have hwk : IntKind.i64.wrap ((k : Int) + 1) = (k : Int) + 1 := Go.IntWalk.i64_in _ (by omega)
          have hkk : ((k + 1 : Nat) : Int) = (k : Int) + 1 := by omega
          clear htx hE hsz hk hat hnx
          have HK600 : Hid (k + 1 < 600 ∨ k + 1 = 600) := hide (by omega)
          by_cases h600 : k + 1 = 600
          · have e600 : ((k : Int) + 1 == 600) = true := by rw [beq_iff_eq]; omega
            have HE6 := hide h600
            clear h600
            gi_wp2_with (refine ⟨trivial, ?_⟩; gi_at_call 31; refine (callsIn_in HNX.out).mono ?_; rintro e W4 ⟨rfl, hb4⟩; have HT4 := hide (HTX.out.below hb4); have HX4 : Hid (OutP (fun i => i = tb ∨ i = tb + 1 ∨ i = tb + 2) Wr W4) := hide (OutP.of_below hb4); clear hb4 y0 y1 y2 f0 f1 f2 HNX; obtain ⟨y0, y1, y2, f0, f1, f2⟩ := HT4.out.cells)
            have HX8 := ((HX4.out.set ⟨tb + 1, 0, none⟩ (.inr (.inl rfl)) (.int .u32 (nv : Int))).set ⟨tb + 1 + 1, 0, none⟩ (.inr (.inr rfl)) (.bool nb)).set ⟨tb, 0, none⟩ (.inl rfl) (.int .i64 ((k : Int) + 1))
            have HT8 := ((HT4.out.setA nv).setM nb).setK (pre ++ [a]).length
            rw [show (((pre ++ [a]).length : Nat) : Int) = (k : Int) + 1 by rw [HLN.out]; exact hkk] at HT8
            have h9 : (pre ++ [a]).length = 600 := by rw [HLN.out]; exact HE6.out
            first
              | exact ⟨HX8, ⟨nv, nb, h9, HT8⟩⟩
              | exact ⟨HX8, rfl, ⟨nv, nb, h9, HT8⟩⟩
          · have e600 : ((k : Int) + 1 == 600) = false := by rw [beq_eq_false_iff_ne]; omega
            have HE6 : Hid (k + 1 < 600) := hide (by omega)
            clear h600
            gi_wp2_with (refine ⟨trivial, ?_⟩; gi_at_call 31; refine (callsIn_in HNX.out).mono ?_; rintro e W4 ⟨rfl, hb4⟩; have HT4 := hide (HTX.out.below hb4); have HX4 : Hid (OutP (fun i => i = tb ∨ i = tb + 1 ∨ i = tb + 2) Wr W4) := hide (OutP.of_below hb4); clear hb4 y0 y1 y2 f0 f1 f2 HNX; obtain ⟨y0, y1, y2, f0, f1, f2⟩ := HT4.out.cells)
            have HX8 := ((HX4.out.set ⟨tb + 1, 0, none⟩ (.inr (.inl rfl)) (.int .u32 (nv : Int))).set ⟨tb + 1 + 1, 0, none⟩ (.inr (.inr rfl)) (.bool nb)).set ⟨tb, 0, none⟩ (.inl rfl) (.int .i64 ((k : Int) + 1))
            have HT8 := ((HT4.out.setA nv).setM nb).setK (pre ++ [a]).length
            rw [show (((pre ++ [a]).length : Nat) : Int) = (k : Int) + 1 by rw [HLN.out]; exact hkk] at HT8
            have h9 : (pre ++ [a]).length < 600 := by rw [HLN.out]; exact HE6.out
            exact ⟨HX8, ⟨nv, nb, h9, HAT.out, HT8⟩⟩
        case rest_x4 =>
          rintro D0x WX0 hD ⟨k, a, m, hor, htx⟩ hK
          have hbT : Below wk.heap.size wk WX0 := HBX.out.trans (htx.bel.mono HBX.out.size)
          have HBW0 := hide hbT
          have HKD0 := hide hK
          have HTW0 := hide htx.bel
          have HDW0 : Hid (wk.heap.size ≤ D0x) := hide (by have := HZX.out; have := HTB.out; omega)
          obtain ⟨y0, y1, y2, f0, f1, f2⟩ := htx.cells
          clear hbT htx hK hD HX0 HZX HTB HBX
          rcases hor with ⟨hk6, rfl⟩ | rfl
          · have h6 : decide ((k : Int) < 600) = true := decide_eq_true (by omega)
            clear hk6
            gi_wp2_with fail
            rw [roundsIn_succ]
            have HX1 := hide (TurnX.start WX0)
            clear y0 y1 y2 f0 f1 f2 h6
            gi_wp2_with fail
            have HBX := HBW0
            have HZX : Hid (((((WX0.alloc (.cells #[.int .i64 0] 3)).alloc (.cells #[.int .u32 0] 25)).alloc (.cells #[.bool true] 4))).heap.size = WX0.heap.size + 3) := hide (by simp)
            generalize ((WX0.alloc (.cells #[.int .i64 0] 3)).alloc (.cells #[.int .u32 0] 25)).alloc (.cells #[.bool true] 4) = wx1 at *
            obtain ⟨tb, htb⟩ : ∃ tb, tb = WX0.heap.size := ⟨_, rfl⟩
            have HTB : Hid (tb = WX0.heap.size) := hide htb
            rw [← HTB.out] at HX1 HZX
            rw [← htb]
            clear htb
            refine wpIn_rangeCut (α := Nat) (encs := encG) (E := fun pre x => ChainTo s pre x) (S := fun xs => ∃ pre x, xs = pre ++ [x] ∧ ChainTo s pre x ∧ (nextG x s).2 = false) (Sp := fun xs => ∃ pre x, xs = pre ++ [x] ∧ ChainTo s pre x) (gf := 51) (lb := #[.pointer (some ⟨w1.heap.size + 1, 0, none⟩)]) rfl (enters_of Tryd.func51 (by kernel_rfl) rfl) (fun i => i = tb ∨ i = tb + 1 ∨ i = tb + 2)
              (fun h => by have := HZX.out; omega) (fun h => by have := HZX.out; omega)
              (fun W hb hz => subs_seq hs ((hb.block _ (by have := lt_of_block HQk.out; have := HBX.out.size; have := HZX.out; have := HTB.out; omega)).trans ((HX1.out.bel.block _ (by have := lt_of_block HQk.out; have := HBX.out.size; omega)).trans ((HBX.out.block _ (lt_of_block HQk.out)).trans HQk.out)))
                (fun h => by have := lt_of_block HQk.out; have := HBX.out.size; have := HZX.out; have := HTB.out; omega)) (fun _ => rfl)
              6 (fun pre W' => ∃ a m, pre.length < 600 ∧ AtX s pre a m ∧ TurnX WX0 tb pre.length a m W') (fun pre W' => ∃ a m, pre.length = 600 ∧ TurnX WX0 tb pre.length a m W')
              (fun W' => ∃ (k a : Nat) (m : Bool), ((k < 600 ∧ m = false) ∨ k = 600) ∧ TurnX WX0 tb k a m W')
              (fun s' X Y row hs' hg hr => by obtain ⟨a, m, h1, h2, h3⟩ := hs'; exact ⟨a, m, h1, h2, h3.own (S := wx1.heap.size) (by have := HZX.out; omega) hg (fun r e => (hr r e).1)⟩) (fun s' X Y row hs' hg hr => by obtain ⟨a, m, h1, h3⟩ := hs'; exact ⟨a, m, h1, h3.own (S := wx1.heap.size) (by have := HZX.out; omega) hg (fun r e => (hr r e).1)⟩) ⟨0, true, by decide, .inl ⟨rfl, rfl, rfl⟩, HX1.out⟩
              ?a2_x5 7 ?assign_x5 ?body_x5 ?r_x5 ?rx_x5 (fun _ _ h => h) ?rest_x5
            case assign_x5 =>
              rintro l' pre x W' K he hK
              clear he
              simp only [encG]
              gi_wp2
              exact hK
            case r_x5 =>
              rintro xs W' ⟨q, x, rfl, hc, hn⟩ ⟨a, m, h1, h2, h3⟩
              refine ⟨_, a, m, .inl ⟨h1, ?_⟩, h3⟩
              rcases h2 with ⟨h, _⟩ | ⟨q', y, h, hn'⟩
              · exact absurd h (by simp)
              · obtain ⟨_, hy⟩ := List.append_inj' h rfl
                injection hy with hy _
                subst hy
                rw [hn'] at hn
                exact hn
            case rx_x5 =>
              rintro pre W' _ ⟨a, m, h1, h3⟩
              exact ⟨_, a, m, .inr h1, h3⟩
            case body_x5 =>
              rintro l' pre x Wr ⟨a, m, hlt, hat, htx⟩ hE hsz
              obtain ⟨rfl, rfl⟩ := hat.chain hE
              have hx32 := (hE.lt hs).1
              obtain ⟨k, hk⟩ : ∃ k, k = pre.length := ⟨_, rfl⟩
              rw [← hk] at hlt htx
              have HTX := hide htx
              have HLN : Hid ((pre ++ [a]).length = k + 1) := hide (by rw [List.length_append, ← hk]; rfl)
              obtain ⟨⟨nv, nb⟩, hnx⟩ : ∃ r, nextG a s = r := ⟨_, rfl⟩
              have HAT : Hid (AtX s (pre ++ [a]) nv nb) := hide (.inr ⟨pre, a, rfl, hnx⟩)
              have HNX := hide (refnext_any a s hx32 hs Wr)
              unfold ValPost at HNX
              rw [hnx] at HNX
              have g0 := (HRk.out.below (HBX.out.trans (htx.bel.mono HBX.out.size))).cells.1
              obtain ⟨y0, y1, y2, f0, f1, f2⟩ := htx.cells
              have hwk : IntKind.i64.wrap ((k : Int) + 1) = (k : Int) + 1 := Go.IntWalk.i64_in _ (by omega)
              have hkk : ((k + 1 : Nat) : Int) = (k : Int) + 1 := by omega
              clear htx hE hsz hk hat hnx
              have HK600 : Hid (k + 1 < 600 ∨ k + 1 = 600) := hide (by omega)
              by_cases h600 : k + 1 = 600
              · have e600 : ((k : Int) + 1 == 600) = true := by rw [beq_iff_eq]; omega
                have HE6 := hide h600
                clear h600
                gi_wp2_with (refine ⟨trivial, ?_⟩; gi_at_call 31; refine (callsIn_in HNX.out).mono ?_; rintro e W4 ⟨rfl, hb4⟩; have HT4 := hide (HTX.out.below hb4); have HX4 : Hid (OutP (fun i => i = tb ∨ i = tb + 1 ∨ i = tb + 2) Wr W4) := hide (OutP.of_below hb4); clear hb4 y0 y1 y2 f0 f1 f2 HNX; obtain ⟨y0, y1, y2, f0, f1, f2⟩ := HT4.out.cells)
                have HX8 := ((HX4.out.set ⟨tb + 1, 0, none⟩ (.inr (.inl rfl)) (.int .u32 (nv : Int))).set ⟨tb + 1 + 1, 0, none⟩ (.inr (.inr rfl)) (.bool nb)).set ⟨tb, 0, none⟩ (.inl rfl) (.int .i64 ((k : Int) + 1))
                have HT8 := ((HT4.out.setA nv).setM nb).setK (pre ++ [a]).length
                rw [show (((pre ++ [a]).length : Nat) : Int) = (k : Int) + 1 by rw [HLN.out]; exact hkk] at HT8
                have h9 : (pre ++ [a]).length = 600 := by rw [HLN.out]; exact HE6.out
                first
                  | exact ⟨HX8, ⟨nv, nb, h9, HT8⟩⟩
                  | exact ⟨HX8, rfl, ⟨nv, nb, h9, HT8⟩⟩
              · have e600 : ((k : Int) + 1 == 600) = false := by rw [beq_eq_false_iff_ne]; omega
                have HE6 : Hid (k + 1 < 600) := hide (by omega)
                clear h600
                gi_wp2_with (refine ⟨trivial, ?_⟩; gi_at_call 31; refine (callsIn_in HNX.out).mono ?_; rintro e W4 ⟨rfl, hb4⟩; have HT4 := hide (HTX.out.below hb4); have HX4 : Hid (OutP (fun i => i = tb ∨ i = tb + 1 ∨ i = tb + 2) Wr W4) := hide (OutP.of_below hb4); clear hb4 y0 y1 y2 f0 f1 f2 HNX; obtain ⟨y0, y1, y2, f0, f1, f2⟩ := HT4.out.cells)
                have HX8 := ((HX4.out.set ⟨tb + 1, 0, none⟩ (.inr (.inl rfl)) (.int .u32 (nv : Int))).set ⟨tb + 1 + 1, 0, none⟩ (.inr (.inr rfl)) (.bool nb)).set ⟨tb, 0, none⟩ (.inl rfl) (.int .i64 ((k : Int) + 1))
                have HT8 := ((HT4.out.setA nv).setM nb).setK (pre ++ [a]).length
                rw [show (((pre ++ [a]).length : Nat) : Int) = (k : Int) + 1 by rw [HLN.out]; exact hkk] at HT8
                have h9 : (pre ++ [a]).length < 600 := by rw [HLN.out]; exact HE6.out
                exact ⟨HX8, ⟨nv, nb, h9, HAT.out, HT8⟩⟩
            case rest_x5 =>
              rintro D1x WX1 hD ⟨k, a, m, hor, htx⟩ hK
              have hbT : Below wk.heap.size wk WX1 := HBX.out.trans (htx.bel.mono HBX.out.size)
              have HBW1 := hide hbT
              have HKD1 := hide hK
              have HTW1 := hide htx.bel
              have HDW1 : Hid (WX0.heap.size ≤ D1x) := hide (by have := HZX.out; have := HTB.out; omega)
              obtain ⟨y0, y1, y2, f0, f1, f2⟩ := htx.cells
              clear hbT htx hK hD HX1 HZX HTB HBX
              rcases hor with ⟨hk6, rfl⟩ | rfl
              · have h6 : decide ((k : Int) < 600) = true := decide_eq_true (by omega)
                clear hk6
                have HRx := hide (HRk.out.below HBW1.out)
                have g0 := HRx.out.cells.1
                obtain ⟨⟨nv, nb⟩, hnx⟩ : ∃ r, nextG from_ s = r := ⟨_, rfl⟩
                have HN1 := hide (next_any from_ s hf hs WX1)
                have HN2 := hide (refnext_any from_ s hf hs WX1)
                unfold SamePost at HN1
                unfold ValPost at HN2
                rw [hnx] at HN1 HN2
                clear hnx
                gi_wp2_with fail
                rw [roundsIn_succ]
                clear y0 y1 y2 f0 f1 f2 h6
                gi_wp2_with (first
                  | (refine ⟨trivial, ?_⟩; gi_at_call 32; refine (callsIn_wide.2 HN1.out).mono ?_; rintro e _ ⟨rfl, rfl⟩)
                  | (refine ⟨trivial, ?_⟩; gi_at_call 31; refine (callsIn_wide.2 HN2.out).mono ?_; rintro e w5 ⟨rfl, hb5⟩; have HB5 := hide hb5; have HR5 := hide (HRx.out.below hb5); clear hb5)
                  | (refine ⟨trivial, ?_⟩; gi_at_call 22; refine (callsIn_wide.2 (HKN.out _ HR5.out.bel)).mono ?_; rintro e w6 ⟨rfl, hb6⟩; have HB6 := hide (HB5.out.trans (hb6.mono HB5.out.size)); have HR6 := hide (HR5.out.below hb6); clear hb6; obtain ⟨_, _, z2, zf⟩ := HR6.out.cells))
                have HD := hide (⟨by have := HDa.out; omega, by have := HDa.out; have := HDW0.out; omega, by have := HDW1.out; have := lt_of_block HKD0.out; omega⟩ : D0 < D1 ∧ D1 < D0x ∧ D0x < D1x)
                have key : ∀ {i : Nat} {o : Obj}, i ≠ w.heap.size + 2 → WX1.heap[i]? = some o → (w6.setCell ⟨w.heap.size + 2, 0, none⟩ (.bool true)).heap[i]? = some o := fun hi ho => (Below.heap_setCell _ _ _ _ hi).trans ((HB6.out.block _ (lt_of_block ho)).trans ho)
                have hw := HDa.out.1
                have k0 := key (by have := HD.out; omega) ((HBW1.out.block _ (by have := HDa.out; omega)).trans HKa.out)
                have k1 := key (by have := HD.out; omega) ((HBW1.out.block _ (by have := HDa.out; omega)).trans HKb.out)
                have k2 := key (by have := HD.out; omega) ((HTW1.out.block _ (lt_of_block HKD0.out)).trans HKD0.out)
                have k3 := key (by have := HD.out; omega) HKD1.out
                exact ask_end (HR6.out.says true) hw HD.out.1 HD.out.2.1 HD.out.2.2 k0 k1 k2 k3 (fun W' h => by simp [results, Tryd.results6, go_sem, h])
              · have h6 : decide (((600 : Nat) : Int) < 600) = false := decide_eq_false (by omega)
                have HRx := hide (HRk.out.below HBW1.out)
                have g0 := HRx.out.cells.1
                obtain ⟨⟨nv, nb⟩, hnx⟩ : ∃ r, nextG from_ s = r := ⟨_, rfl⟩
                have HN1 := hide (next_any from_ s hf hs WX1)
                have HN2 := hide (refnext_any from_ s hf hs WX1)
                unfold SamePost at HN1
                unfold ValPost at HN2
                rw [hnx] at HN1 HN2
                clear hnx
                gi_wp2_with fail
                rw [roundsIn_succ]
                clear y0 y1 y2 f0 f1 f2 h6
                gi_wp2_with (first
                  | (refine ⟨trivial, ?_⟩; gi_at_call 32; refine (callsIn_wide.2 HN1.out).mono ?_; rintro e _ ⟨rfl, rfl⟩)
                  | (refine ⟨trivial, ?_⟩; gi_at_call 31; refine (callsIn_wide.2 HN2.out).mono ?_; rintro e w5 ⟨rfl, hb5⟩; have HB5 := hide hb5; have HR5 := hide (HRx.out.below hb5); clear hb5)
                  | (refine ⟨trivial, ?_⟩; gi_at_call 22; refine (callsIn_wide.2 (HKN.out _ HR5.out.bel)).mono ?_; rintro e w6 ⟨rfl, hb6⟩; have HB6 := hide (HB5.out.trans (hb6.mono HB5.out.size)); have HR6 := hide (HR5.out.below hb6); clear hb6; obtain ⟨_, _, z2, zf⟩ := HR6.out.cells))
                have HD := hide (⟨by have := HDa.out; omega, by have := HDa.out; have := HDW0.out; omega, by have := HDW1.out; have := lt_of_block HKD0.out; omega⟩ : D0 < D1 ∧ D1 < D0x ∧ D0x < D1x)
                have key : ∀ {i : Nat} {o : Obj}, i ≠ w.heap.size + 2 → WX1.heap[i]? = some o → (w6.setCell ⟨w.heap.size + 2, 0, none⟩ (.bool true)).heap[i]? = some o := fun hi ho => (Below.heap_setCell _ _ _ _ hi).trans ((HB6.out.block _ (lt_of_block ho)).trans ho)
                have hw := HDa.out.1
                have k0 := key (by have := HD.out; omega) ((HBW1.out.block _ (by have := HDa.out; omega)).trans HKa.out)
                have k1 := key (by have := HD.out; omega) ((HBW1.out.block _ (by have := HDa.out; omega)).trans HKb.out)
                have k2 := key (by have := HD.out; omega) ((HTW1.out.block _ (lt_of_block HKD0.out)).trans HKD0.out)
                have k3 := key (by have := HD.out; omega) HKD1.out
                exact ask_end (HR6.out.says true) hw HD.out.1 HD.out.2.1 HD.out.2.2 k0 k1 k2 k3 (fun W' h => by simp [results, Tryd.results6, go_sem, h])
          · have h6 : decide (((600 : Nat) : Int) < 600) = false := decide_eq_false (by omega)
            gi_wp2_with fail
            rw [roundsIn_succ]
            have HX1 := hide (TurnX.start WX0)
            clear y0 y1 y2 f0 f1 f2 h6
            gi_wp2_with fail
            have HBX := HBW0
            have HZX : Hid (((((WX0.alloc (.cells #[.int .i64 0] 3)).alloc (.cells #[.int .u32 0] 25)).alloc (.cells #[.bool true] 4))).heap.size = WX0.heap.size + 3) := hide (by simp)
            generalize ((WX0.alloc (.cells #[.int .i64 0] 3)).alloc (.cells #[.int .u32 0] 25)).alloc (.cells #[.bool true] 4) = wx1 at *
            obtain ⟨tb, htb⟩ : ∃ tb, tb = WX0.heap.size := ⟨_, rfl⟩
            have HTB : Hid (tb = WX0.heap.size) := hide htb
            rw [← HTB.out] at HX1 HZX
            rw [← htb]
            clear htb
            refine wpIn_rangeCut (α := Nat) (encs := encG) (E := fun pre x => ChainTo s pre x) (S := fun xs => ∃ pre x, xs = pre ++ [x] ∧ ChainTo s pre x ∧ (nextG x s).2 = false) (Sp := fun xs => ∃ pre x, xs = pre ++ [x] ∧ ChainTo s pre x) (gf := 51) (lb := #[.pointer (some ⟨w1.heap.size + 1, 0, none⟩)]) rfl (enters_of Tryd.func51 (by kernel_rfl) rfl) (fun i => i = tb ∨ i = tb + 1 ∨ i = tb + 2)
              (fun h => by have := HZX.out; omega) (fun h => by have := HZX.out; omega)
              (fun W hb hz => subs_seq hs ((hb.block _ (by have := lt_of_block HQk.out; have := HBX.out.size; have := HZX.out; have := HTB.out; omega)).trans ((HX1.out.bel.block _ (by have := lt_of_block HQk.out; have := HBX.out.size; omega)).trans ((HBX.out.block _ (lt_of_block HQk.out)).trans HQk.out)))
                (fun h => by have := lt_of_block HQk.out; have := HBX.out.size; have := HZX.out; have := HTB.out; omega)) (fun _ => rfl)
              6 (fun pre W' => ∃ a m, pre.length < 600 ∧ AtX s pre a m ∧ TurnX WX0 tb pre.length a m W') (fun pre W' => ∃ a m, pre.length = 600 ∧ TurnX WX0 tb pre.length a m W')
              (fun W' => ∃ (k a : Nat) (m : Bool), ((k < 600 ∧ m = false) ∨ k = 600) ∧ TurnX WX0 tb k a m W')
              (fun s' X Y row hs' hg hr => by obtain ⟨a, m, h1, h2, h3⟩ := hs'; exact ⟨a, m, h1, h2, h3.own (S := wx1.heap.size) (by have := HZX.out; omega) hg (fun r e => (hr r e).1)⟩) (fun s' X Y row hs' hg hr => by obtain ⟨a, m, h1, h3⟩ := hs'; exact ⟨a, m, h1, h3.own (S := wx1.heap.size) (by have := HZX.out; omega) hg (fun r e => (hr r e).1)⟩) ⟨0, true, by decide, .inl ⟨rfl, rfl, rfl⟩, HX1.out⟩
              ?a2_x6 7 ?assign_x6 ?body_x6 ?r_x6 ?rx_x6 (fun _ _ h => h) ?rest_x6
            case assign_x6 =>
              rintro l' pre x W' K he hK
              clear he
              simp only [encG]
              gi_wp2
              exact hK
            case r_x6 =>
              rintro xs W' ⟨q, x, rfl, hc, hn⟩ ⟨a, m, h1, h2, h3⟩
              refine ⟨_, a, m, .inl ⟨h1, ?_⟩, h3⟩
              rcases h2 with ⟨h, _⟩ | ⟨q', y, h, hn'⟩
              · exact absurd h (by simp)
              · obtain ⟨_, hy⟩ := List.append_inj' h rfl
                injection hy with hy _
                subst hy
                rw [hn'] at hn
                exact hn
            case rx_x6 =>
              rintro pre W' _ ⟨a, m, h1, h3⟩
              exact ⟨_, a, m, .inr h1, h3⟩
            case body_x6 =>
              rintro l' pre x Wr ⟨a, m, hlt, hat, htx⟩ hE hsz
              obtain ⟨rfl, rfl⟩ := hat.chain hE
              have hx32 := (hE.lt hs).1
              obtain ⟨k, hk⟩ : ∃ k, k = pre.length := ⟨_, rfl⟩
              rw [← hk] at hlt htx
              have HTX := hide htx
              have HLN : Hid ((pre ++ [a]).length = k + 1) := hide (by rw [List.length_append, ← hk]; rfl)
              obtain ⟨⟨nv, nb⟩, hnx⟩ : ∃ r, nextG a s = r := ⟨_, rfl⟩
              have HAT : Hid (AtX s (pre ++ [a]) nv nb) := hide (.inr ⟨pre, a, rfl, hnx⟩)
              have HNX := hide (refnext_any a s hx32 hs Wr)
              unfold ValPost at HNX
              rw [hnx] at HNX
              have g0 := (HRk.out.below (HBX.out.trans (htx.bel.mono HBX.out.size))).cells.1
              obtain ⟨y0, y1, y2, f0, f1, f2⟩ := htx.cells
              have hwk : IntKind.i64.wrap ((k : Int) + 1) = (k : Int) + 1 := Go.IntWalk.i64_in _ (by omega)
              have hkk : ((k + 1 : Nat) : Int) = (k : Int) + 1 := by omega
              clear htx hE hsz hk hat hnx
              have HK600 : Hid (k + 1 < 600 ∨ k + 1 = 600) := hide (by omega)
              by_cases h600 : k + 1 = 600
              · have e600 : ((k : Int) + 1 == 600) = true := by rw [beq_iff_eq]; omega
                have HE6 := hide h600
                clear h600
                gi_wp2_with (refine ⟨trivial, ?_⟩; gi_at_call 31; refine (callsIn_in HNX.out).mono ?_; rintro e W4 ⟨rfl, hb4⟩; have HT4 := hide (HTX.out.below hb4); have HX4 : Hid (OutP (fun i => i = tb ∨ i = tb + 1 ∨ i = tb + 2) Wr W4) := hide (OutP.of_below hb4); clear hb4 y0 y1 y2 f0 f1 f2 HNX; obtain ⟨y0, y1, y2, f0, f1, f2⟩ := HT4.out.cells)
                have HX8 := ((HX4.out.set ⟨tb + 1, 0, none⟩ (.inr (.inl rfl)) (.int .u32 (nv : Int))).set ⟨tb + 1 + 1, 0, none⟩ (.inr (.inr rfl)) (.bool nb)).set ⟨tb, 0, none⟩ (.inl rfl) (.int .i64 ((k : Int) + 1))
                have HT8 := ((HT4.out.setA nv).setM nb).setK (pre ++ [a]).length
                rw [show (((pre ++ [a]).length : Nat) : Int) = (k : Int) + 1 by rw [HLN.out]; exact hkk] at HT8
                have h9 : (pre ++ [a]).length = 600 := by rw [HLN.out]; exact HE6.out
                first
                  | exact ⟨HX8, ⟨nv, nb, h9, HT8⟩⟩
                  | exact ⟨HX8, rfl, ⟨nv, nb, h9, HT8⟩⟩
              · have e600 : ((k : Int) + 1 == 600) = false := by rw [beq_eq_false_iff_ne]; omega
                have HE6 : Hid (k + 1 < 600) := hide (by omega)
                clear h600
                gi_wp2_with (refine ⟨trivial, ?_⟩; gi_at_call 31; refine (callsIn_in HNX.out).mono ?_; rintro e W4 ⟨rfl, hb4⟩; have HT4 := hide (HTX.out.below hb4); have HX4 : Hid (OutP (fun i => i = tb ∨ i = tb + 1 ∨ i = tb + 2) Wr W4) := hide (OutP.of_below hb4); clear hb4 y0 y1 y2 f0 f1 f2 HNX; obtain ⟨y0, y1, y2, f0, f1, f2⟩ := HT4.out.cells)
                have HX8 := ((HX4.out.set ⟨tb + 1, 0, none⟩ (.inr (.inl rfl)) (.int .u32 (nv : Int))).set ⟨tb + 1 + 1, 0, none⟩ (.inr (.inr rfl)) (.bool nb)).set ⟨tb, 0, none⟩ (.inl rfl) (.int .i64 ((k : Int) + 1))
                have HT8 := ((HT4.out.setA nv).setM nb).setK (pre ++ [a]).length
                rw [show (((pre ++ [a]).length : Nat) : Int) = (k : Int) + 1 by rw [HLN.out]; exact hkk] at HT8
                have h9 : (pre ++ [a]).length < 600 := by rw [HLN.out]; exact HE6.out
                exact ⟨HX8, ⟨nv, nb, h9, HAT.out, HT8⟩⟩
            case rest_x6 =>
              rintro D1x WX1 hD ⟨k, a, m, hor, htx⟩ hK
              have hbT : Below wk.heap.size wk WX1 := HBX.out.trans (htx.bel.mono HBX.out.size)
              have HBW1 := hide hbT
              have HKD1 := hide hK
              have HTW1 := hide htx.bel
              have HDW1 : Hid (WX0.heap.size ≤ D1x) := hide (by have := HZX.out; have := HTB.out; omega)
              obtain ⟨y0, y1, y2, f0, f1, f2⟩ := htx.cells
              clear hbT htx hK hD HX1 HZX HTB HBX
              rcases hor with ⟨hk6, rfl⟩ | rfl
              · have h6 : decide ((k : Int) < 600) = true := decide_eq_true (by omega)
                clear hk6
                have HRx := hide (HRk.out.below HBW1.out)
                have g0 := HRx.out.cells.1
                obtain ⟨⟨nv, nb⟩, hnx⟩ : ∃ r, nextG from_ s = r := ⟨_, rfl⟩
                have HN1 := hide (next_any from_ s hf hs WX1)
                have HN2 := hide (refnext_any from_ s hf hs WX1)
                unfold SamePost at HN1
                unfold ValPost at HN2
                rw [hnx] at HN1 HN2
                clear hnx
                gi_wp2_with fail
                rw [roundsIn_succ]
                clear y0 y1 y2 f0 f1 f2 h6
                gi_wp2_with (first
                  | (refine ⟨trivial, ?_⟩; gi_at_call 32; refine (callsIn_wide.2 HN1.out).mono ?_; rintro e _ ⟨rfl, rfl⟩)
                  | (refine ⟨trivial, ?_⟩; gi_at_call 31; refine (callsIn_wide.2 HN2.out).mono ?_; rintro e w5 ⟨rfl, hb5⟩; have HB5 := hide hb5; have HR5 := hide (HRx.out.below hb5); clear hb5)
                  | (refine ⟨trivial, ?_⟩; gi_at_call 22; refine (callsIn_wide.2 (HKN.out _ HR5.out.bel)).mono ?_; rintro e w6 ⟨rfl, hb6⟩; have HB6 := hide (HB5.out.trans (hb6.mono HB5.out.size)); have HR6 := hide (HR5.out.below hb6); clear hb6; obtain ⟨_, _, z2, zf⟩ := HR6.out.cells))
                have HD := hide (⟨by have := HDa.out; omega, by have := HDa.out; have := HDW0.out; omega, by have := HDW1.out; have := lt_of_block HKD0.out; omega⟩ : D0 < D1 ∧ D1 < D0x ∧ D0x < D1x)
                have key : ∀ {i : Nat} {o : Obj}, i ≠ w.heap.size + 2 → WX1.heap[i]? = some o → (w6.setCell ⟨w.heap.size + 2, 0, none⟩ (.bool true)).heap[i]? = some o := fun hi ho => (Below.heap_setCell _ _ _ _ hi).trans ((HB6.out.block _ (lt_of_block ho)).trans ho)
                have hw := HDa.out.1
                have k0 := key (by have := HD.out; omega) ((HBW1.out.block _ (by have := HDa.out; omega)).trans HKa.out)
                have k1 := key (by have := HD.out; omega) ((HBW1.out.block _ (by have := HDa.out; omega)).trans HKb.out)
                have k2 := key (by have := HD.out; omega) ((HTW1.out.block _ (lt_of_block HKD0.out)).trans HKD0.out)
                have k3 := key (by have := HD.out; omega) HKD1.out
                exact ask_end (HR6.out.says true) hw HD.out.1 HD.out.2.1 HD.out.2.2 k0 k1 k2 k3 (fun W' h => by simp [results, Tryd.results6, go_sem, h])
              · have h6 : decide (((600 : Nat) : Int) < 600) = false := decide_eq_false (by omega)
                have HRx := hide (HRk.out.below HBW1.out)
                have g0 := HRx.out.cells.1
                obtain ⟨⟨nv, nb⟩, hnx⟩ : ∃ r, nextG from_ s = r := ⟨_, rfl⟩
                have HN1 := hide (next_any from_ s hf hs WX1)
                have HN2 := hide (refnext_any from_ s hf hs WX1)
                unfold SamePost at HN1
                unfold ValPost at HN2
                rw [hnx] at HN1 HN2
                clear hnx
                gi_wp2_with fail
                rw [roundsIn_succ]
                clear y0 y1 y2 f0 f1 f2 h6
                gi_wp2_with (first
                  | (refine ⟨trivial, ?_⟩; gi_at_call 32; refine (callsIn_wide.2 HN1.out).mono ?_; rintro e _ ⟨rfl, rfl⟩)
                  | (refine ⟨trivial, ?_⟩; gi_at_call 31; refine (callsIn_wide.2 HN2.out).mono ?_; rintro e w5 ⟨rfl, hb5⟩; have HB5 := hide hb5; have HR5 := hide (HRx.out.below hb5); clear hb5)
                  | (refine ⟨trivial, ?_⟩; gi_at_call 22; refine (callsIn_wide.2 (HKN.out _ HR5.out.bel)).mono ?_; rintro e w6 ⟨rfl, hb6⟩; have HB6 := hide (HB5.out.trans (hb6.mono HB5.out.size)); have HR6 := hide (HR5.out.below hb6); clear hb6; obtain ⟨_, _, z2, zf⟩ := HR6.out.cells))
                have HD := hide (⟨by have := HDa.out; omega, by have := HDa.out; have := HDW0.out; omega, by have := HDW1.out; have := lt_of_block HKD0.out; omega⟩ : D0 < D1 ∧ D1 < D0x ∧ D0x < D1x)
                have key : ∀ {i : Nat} {o : Obj}, i ≠ w.heap.size + 2 → WX1.heap[i]? = some o → (w6.setCell ⟨w.heap.size + 2, 0, none⟩ (.bool true)).heap[i]? = some o := fun hi ho => (Below.heap_setCell _ _ _ _ hi).trans ((HB6.out.block _ (lt_of_block ho)).trans ho)
                have hw := HDa.out.1
                have k0 := key (by have := HD.out; omega) ((HBW1.out.block _ (by have := HDa.out; omega)).trans HKa.out)
                have k1 := key (by have := HD.out; omega) ((HBW1.out.block _ (by have := HDa.out; omega)).trans HKb.out)
                have k2 := key (by have := HD.out; omega) ((HTW1.out.block _ (lt_of_block HKD0.out)).trans HKD0.out)
                have k3 := key (by have := HD.out; omega) HKD1.out
                exact ask_end (HR6.out.says true) hw HD.out.1 HD.out.2.1 HD.out.2.2 k0 k1 k2 k3 (fun W' h => by simp [results, Tryd.results6, go_sem, h])
theorem eachLaw_any (s from_ : Nat) (hs : s < 4294967296) (hf : from_ < 4294967296) (lv : Int) (hlv : -9223372036854775808 ≤ lv ∧ lv ≤ 9223372036854775807) (w : World) (hT : TabW w) (hM : MlW w) :
    Calls Tryd.prog 6 #[.int .u32 (s : Int), .int .u32 (from_ : Int), .int .i64 lv] w (ValPost (.bool true) w) := by
  by_cases h : 0 < lv
  · exact eachLaw_pos s from_ hs hf lv hlv h w hT hM
  · exact eachLaw_neg s from_ hs hf lv hlv h w hT hM
end Go.Proofs.YtffpiaipdeebcaaDoor
