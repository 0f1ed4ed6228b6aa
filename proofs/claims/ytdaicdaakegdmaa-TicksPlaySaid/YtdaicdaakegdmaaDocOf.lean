/- The document's calendar of a list: Of. -/
import Derived.Test.YtdaicdaakegdmaaPai
import Derived.Test.YtdaicdaakegdmaaOfL
namespace Go.Proofs.Ytdaicdaakegdmaa
open Go.RowKit Go.Maps Go.Shelf
open Go.ChangeMaps Go.WideMaps

def DocOfP (now : Int) (list : List Du) (w : World) (e : Ending) (w' : World) : Prop :=
  (ofC now list ≠ 0 ∧ e = .returned (.tuple #[.pointer none, .int .i64 (ofC now list)]) ∧ Below w.heap.size w w') ∨
  (ofC now list = 0 ∧ ∃ q v, e = .returned (.tuple #[.pointer (some ⟨q, 0, none⟩), .int .i64 0]) ∧ DocW w' w.heap.size q now v (ofS now list) ∧ Below w.heap.size w w')
theorem ofS_step (now : Int) (list : List Du) (k : Nat) (hk : k < list.length) : ofS now (list.take (k + 1)) = setS now (ofS now (list.take k)) (gD list k).2 (gD list k).1 := by
  unfold ofS
  rw [List.take_add_one, List.getElem?_eq_getElem hk, List.foldl_append, gD_of hk]
  rfl
set_option maxRecDepth 100000 in
set_option maxHeartbeats 8000000 in
theorem docOf_any (now : Int) (A : Option Addr) (n c : Nat) (list : List Du) (w : World) (h : DuesW w A n list) (hn : n ≤ 900000) :
    Calls Try.prog 14 #[.int .i64 now, .slice A n c] w (DocOfP now list w) := by
  have HAT := hide h.at_
  have HLEN := hide h.len
  have HNW := hide (docNew_any now w)
  have HR : Hid (∀ c W, ofC now list = c → c ≠ 0 → Below w.heap.size w W → DocOfP now list w (.returned (.tuple #[.pointer none, .int .i64 c])) W) := hide (fun c W h1 h2 h3 => .inl ⟨by rw [h1]; exact h2, by rw [h1], h3⟩)
  clear h
  go_enter Try.func14, Try.ntmps14
  go_wp2_with fail
  refine (HNW.out).mono ?_
  rintro e w1 (⟨h1, rfl, rfl⟩ | ⟨h1, q, v, rfl, hd, hb⟩)
  · have hc : Hid (ofC now list = 2) := hide (if_pos h1)
    clear h1
    go_wp2_with fail
    go_ret2
    exact HR.out 2 w hc.out (by decide) (Below.refl _ _)
  have hc : Hid (ofC now list = if list.any badD then 2 else if list.any (fun d => decide (d.1 < now)) then 6 else 0) := hide (by unfold ofC; rw [if_neg (by rw [h1]; simp)])
  have HD := hide hd
  have HB := hide hb
  clear h1 hd hb
  go_wp2_with fail
  go_loop [8] (fun i => ∃ k : Nat, k ≤ n ∧ i = .int .i64 k ∧ (list.take k).any badD = false) (fun i => n - (intOf i).toNat)
  case atStart => exact ⟨0, Nat.zero_le _, rfl, rfl⟩
  case round =>
    obtain ⟨k, hk, rfl, hbad⟩ := hrel
    have HBAD := hide hbad
    by_cases hkn : k < n
    · have hkn1 : (k : Int) < (n : Int) := by omega
      have hk0 : (0 : Int) ≤ (k : Int) := by omega
      obtain ⟨g, o, rfl, hg, e0, e1⟩ := HAT.out k hkn
      have a0 := (HB.out.cell (p := ⟨g, o + k * 2, none⟩) hg).trans e0
      have a1 := (HB.out.cell (p := ⟨g, o + k * 2 + 1, none⟩) hg).trans e1
      have hBD := any_take list badD k (by rw [HLEN.out]; exact hkn)
      have hany : badD (gD list k) = true → list.any badD = true := fun h => List.any_eq_true.2 ⟨gD list k, gD_mem (by rw [HLEN.out]; exact hkn), h⟩
      have HANY := hide hany
      generalize gD list k = d at *
      obtain ⟨d1, d2⟩ := d
      simp only at a0 a1 hBD
      have HIS := hide (docIs_any d1 w1)
      have HBK := hide hBD
      clear e0 e1 hBD hany hbad
      cases h2 : isT d1 with
      | false =>
        have HBT : Hid (list.any badD = true) := hide (HANY.out (by simp [badD, h2]))
        rw [h2] at HIS
        clear h2
        go_wp2_with (go_at_call 32; refine (HIS.out).mono ?_; rintro e _ ⟨rfl, rfl⟩)
        go_ret2
        exact HR.out 2 _ (by rw [hc.out, HBT.out]; rfl) (by decide) HB.out
      | true =>
        rw [h2] at HIS
        by_cases h3 : d2 < 0
        · have HBT : Hid (list.any badD = true) := hide (HANY.out (by simp [badD, h3]))
          clear h2
          go_wp2_with (go_at_call 32; refine (HIS.out).mono ?_; rintro e _ ⟨rfl, rfl⟩)
          go_ret2
          exact HR.out 2 _ (by rw [hc.out, HBT.out]; rfl) (by decide) HB.out
        · have HBF : Hid ((list.take (k + 1)).any badD = false) := hide (by rw [HBK.out, HBAD.out]; simp [badD, h2, h3])
          clear h2
          go_wp2_with (go_at_call 32; refine (HIS.out).mono ?_; rintro e _ ⟨rfl, rfl⟩)
          go_roundw
          case rel => exact ⟨k + 1, by omega, by go_num, HBF.out⟩
          case measure => simp [intOf]; omega
    · have hkn1 : ¬ (k : Int) < (n : Int) := by omega
      have hkk : list.take k = list := List.take_of_length_le (by rw [HLEN.out]; omega)
      rw [hkk] at HBAD
      clear hbad hkk
      go_wp2_with fail
      go_loopw [9] (fun i wr => ∃ (k : Nat) (v : Value), k ≤ n ∧ i = .int .i64 k ∧ DocW wr w.heap.size q now v (ofS now (list.take k)) ∧ (ofS now (list.take k)).length ≤ k ∧ (list.take k).any (fun d => decide (d.1 < now)) = false ∧ Below w.heap.size w wr) (fun i _ => n - (intOf i).toNat)
      case atStart => exact ⟨0, v, Nat.zero_le _, rfl, HD.out, Nat.le_refl _, rfl, HB.out⟩
      case round =>
        clear HD HB
        obtain ⟨k, v, hk, rfl, hd, hlk, hlt, hb⟩ := hrel
        have HB := hide hb
        by_cases hkn : k < n
        · have hkn1 : (k : Int) < (n : Int) := by omega
          have hk0 : (0 : Int) ≤ (k : Int) := by omega
          obtain ⟨g, o, rfl, hg, e0, e1⟩ := HAT.out k hkn
          have a0 := (hb.cell (p := ⟨g, o + k * 2, none⟩) hg).trans e0
          have a1 := (hb.cell (p := ⟨g, o + k * 2 + 1, none⟩) hg).trans e1
          have hL := any_take list (fun d => decide (d.1 < now)) k (by rw [HLEN.out]; exact hkn)
          have hst := ofS_step now list k (by rw [HLEN.out]; exact hkn)
          have hany : (gD list k).1 < now → list.any (fun d => decide (d.1 < now)) = true := fun h => List.any_eq_true.2 ⟨gD list k, gD_mem (by rw [HLEN.out]; exact hkn), by simpa using h⟩
          have HANY := hide hany
          generalize gD list k = d at *
          obtain ⟨d1, d2⟩ := d
          simp only at a0 a1 hL hst
          have HLT := hide hL
          have HLP := hide hlt
          have HST := hide hst
          by_cases h3 : d1 < now
          · have HBT : Hid (list.any (fun d => decide (d.1 < now)) = true) := hide (HANY.out h3)
            clear e0 e1 hb hL hst hany hlt hd hlk
            go_wp2_with fail
            go_ret2
            exact HR.out 6 _ (by rw [hc.out, HBAD.out, HBT.out]; rfl) (by decide) HB.out
          · have HBF : Hid ((list.take (k + 1)).any (fun d => decide (d.1 < now)) = false) := hide (by rw [HLT.out, HLP.out]; simpa using h3)
            have hd1 := hd.below ((Below.refl _ _).drew)
            have HSET := hide (docSet_any hd1 (show w.heap.size ≤ wr.heap.size from hb.size) d2 d1 (by omega))
            have HLK := hide hlk
            have HDR : Hid (Below w.heap.size w wr.drew) := hide (hb.trans (((Below.refl _ wr).drew).mono hb.size))
            obtain ⟨P, hP⟩ : ∃ P : World → Prop, P = fun W => W.cell? ⟨g, o + k * 2, none⟩ = some (.int .i64 d1) ∧ W.cell? ⟨g, o + k * 2 + 1, none⟩ = some (.int .i64 d2) := ⟨_, rfl⟩
            have hP0 : P wr.drew := by rw [hP]; exact ⟨a0, a1⟩
            have HQ := hide hd.base
            have HGL : Hid (g < w.heap.size) := hide hg
            have HP0 : Hid (wr.drew.cell? ⟨g, o + k * 2, none⟩ = some (.int .i64 d1) ∧ wr.drew.cell? ⟨g, o + k * 2 + 1, none⟩ = some (.int .i64 d2)) := hide ⟨a0, a1⟩
            have HPE := hide hP
            clear e0 e1 hb hL hst hany hlt hd hlk hd1
            go_wp2_with fail
            refine wp_region_U 12 P (by kernel_rfl) hP0 (fun hHeld => ?_)
            refine AnyU.take (i := 0) (v := ?v1) rfl (by kernel_rfl) (by kernel_rfl) (by kernel_rfl) (by kernel_rfl) (fun _ _ _ h => h) (Or.inl ⟨by rfl, ?hy1⟩) hHeld ?r1
            case hy1 => (intro w hSw; (try dsimp only at hSw); rw [hP] at hSw; obtain ⟨z0, z1⟩ := hSw; go_simp <;> with_reducible rfl)
            simp only [Act.put, List.setIfInBounds_toArray, List.set_cons_zero, List.set_cons_succ]
            refine AnyU.take (i := 1) (v := ?v2) rfl (by kernel_rfl) (by kernel_rfl) (by kernel_rfl) (by kernel_rfl) (fun _ _ _ h => h) (Or.inl ⟨by rfl, ?hy2⟩) hHeld ?r2
            case hy2 => (intro w hSw; (try dsimp only at hSw); rw [hP] at hSw; obtain ⟨z0, z1⟩ := hSw; go_simp <;> with_reducible rfl)
            simp only [Act.put, List.setIfInBounds_toArray, List.set_cons_zero, List.set_cons_succ]
            refine AnyU.take (i := 2) (v := ?v3) rfl (by kernel_rfl) (by kernel_rfl) (by kernel_rfl) (by kernel_rfl) (fun _ _ _ h => h) (Or.inl ⟨by rfl, ?hy3⟩) hHeld ?r3
            case hy3 => (intro w hSw; (try dsimp only at hSw); rw [hP] at hSw; obtain ⟨z0, z1⟩ := hSw; go_simp <;> with_reducible rfl)
            simp only [Act.put, List.setIfInBounds_toArray, List.set_cons_zero, List.set_cons_succ]
            refine AnyU.take (i := 3) (v := ?v4) rfl (by kernel_rfl) (by kernel_rfl) (by kernel_rfl) (by kernel_rfl) (fun _ _ _ h => h) (Or.inl ⟨by rfl, ?hy4⟩) hHeld ?r4
            case hy4 => (intro w hSw; (try dsimp only at hSw); rw [hP] at hSw; obtain ⟨z0, z1⟩ := hSw; go_simp <;> with_reducible rfl)
            simp only [Act.put, List.setIfInBounds_toArray, List.set_cons_zero, List.set_cons_succ]
            refine AnyU.take (i := 4) (v := ?v5) rfl (by kernel_rfl) (by kernel_rfl) (by kernel_rfl) (by kernel_rfl) (fun _ _ _ h => h) (Or.inl ⟨by rfl, ?hy5⟩) hHeld ?r5
            case hy5 => (intro w hSw; (try dsimp only at hSw); rw [hP] at hSw; obtain ⟨z0, z1⟩ := hSw; go_simp <;> with_reducible rfl)
            simp only [Act.put, List.setIfInBounds_toArray, List.set_cons_zero, List.set_cons_succ]
            refine AnyU.take (i := 5) (v := ?v6) rfl (by kernel_rfl) (by kernel_rfl) (by kernel_rfl) (by kernel_rfl) (fun _ _ _ h => h) (Or.inl ⟨by rfl, ?hy6⟩) hHeld ?r6
            case hy6 => (intro w hSw; (try dsimp only at hSw); rw [hP] at hSw; obtain ⟨z0, z1⟩ := hSw; go_simp <;> with_reducible rfl)
            simp only [Act.put, List.setIfInBounds_toArray, List.set_cons_zero, List.set_cons_succ]
            refine AnyU.take (i := 6) (v := ?v7) rfl (by kernel_rfl) (by kernel_rfl) (by kernel_rfl) (by kernel_rfl) (fun _ _ _ h => h) (Or.inl ⟨by rfl, ?hy7⟩) hHeld ?r7
            case hy7 => (intro w hSw; (try dsimp only at hSw); rw [hP] at hSw; obtain ⟨z0, z1⟩ := hSw; go_simp <;> with_reducible rfl)
            simp only [Act.put, List.setIfInBounds_toArray, List.set_cons_zero, List.set_cons_succ]
            refine AnyU.take (i := 7) (v := ?v8) rfl (by kernel_rfl) (by kernel_rfl) (by kernel_rfl) (by kernel_rfl) (fun _ _ _ h => h) (Or.inl ⟨by rfl, ?hy8⟩) hHeld ?r8
            case hy8 => (intro w hSw; (try dsimp only at hSw); rw [hP] at hSw; obtain ⟨z0, z1⟩ := hSw; go_simp <;> with_reducible rfl)
            simp only [Act.put, List.setIfInBounds_toArray, List.set_cons_zero, List.set_cons_succ]
            refine AnyU.take (i := 8) (v := ?v9) rfl (by kernel_rfl) (by kernel_rfl) (by kernel_rfl) (by kernel_rfl) (fun _ _ _ h => h) (Or.inl ⟨by rfl, ?hy9⟩) hHeld ?r9
            case hy9 => (intro w hSw; (try dsimp only at hSw); rw [hP] at hSw; obtain ⟨z0, z1⟩ := hSw; go_simp <;> with_reducible rfl)
            simp only [Act.put, List.setIfInBounds_toArray, List.set_cons_zero, List.set_cons_succ]
            refine AnyU.take (i := 9) (v := ?v10) rfl (by kernel_rfl) (by kernel_rfl) (by kernel_rfl) (by kernel_rfl) (fun _ _ _ h => h) (Or.inl ⟨by rfl, ?hy10⟩) hHeld ?r10
            case hy10 => (intro w hSw; (try dsimp only at hSw); rw [hP] at hSw; obtain ⟨z0, z1⟩ := hSw; go_simp <;> with_reducible rfl)
            simp only [Act.put, List.setIfInBounds_toArray, List.set_cons_zero, List.set_cons_succ]
            refine AnyU.take (i := 10) (v := ?v11) rfl (by kernel_rfl) (by kernel_rfl) (by kernel_rfl) (by kernel_rfl) (fun _ _ _ h => h) (Or.inl ⟨by rfl, ?hy11⟩) hHeld ?r11
            case hy11 => (intro w hSw; (try dsimp only at hSw); rw [hP] at hSw; obtain ⟨z0, z1⟩ := hSw; go_simp <;> with_reducible rfl)
            simp only [Act.put, List.setIfInBounds_toArray, List.set_cons_zero, List.set_cons_succ]
            clear hHeld
            refine AnyU.next (js := [11]) (by kernel_rfl) (by simp) (NextU.cons rfl (fun K hK => ?_) NextU.nil)
            go_simp
            refine (HSET.out).mono ?_
            rintro _ w3 ⟨rfl, v3, hd3, ho3, _⟩
            have HD3 : Hid (DocW w3 w.heap.size q now v3 (ofS now (list.take (k + 1)))) := hide (by rw [HST.out]; exact hd3)
            have HB3 : Hid (Below w.heap.size w w3) := hide (HDR.out.trans (ho3.below HDR.out.size (fun j hj => by rw [hj]; exact HQ.out)))
            have HL3 : Hid ((ofS now (list.take (k + 1))).length ≤ k + 1) := hide (by rw [HST.out]; have := setS_le now d2 d1 (ofS now (list.take k)); have := HLK.out; omega)
            have HP3 : Hid (P w3) := hide (by
              have h1 := HQ.out
              have h2 := HGL.out
              have h3 : g < wr.drew.heap.size := Nat.lt_of_lt_of_le h2 HB.out.size
              rw [HPE.out]
              exact ⟨(World.cell?_of_block (w := wr.drew) (ho3.block g h3 (by omega))).trans HP0.out.1, (World.cell?_of_block (w := wr.drew) (ho3.block g h3 (by omega))).trans HP0.out.2⟩)
            clear hd3 ho3
            refine hK.out _ _ (fun _ => HP3.out) (fun hHeld => ?_)
            try simp only [Act.put, List.setIfInBounds_toArray, List.set_cons_zero, List.set_cons_succ]
            clear hK K hHeld
            refine AnyU.over (by kernel_rfl) ?_ _
            go_wp2_with fail
            go_roundw
            case rel => exact ⟨k + 1, v3, by omega, by go_num, HD3.out, HL3.out, HBF.out, HB3.out⟩
            case measure => simp [intOf]; omega
        · have hkn1 : ¬ (k : Int) < (n : Int) := by omega
          have hkk : list.take k = list := List.take_of_length_le (by rw [HLEN.out]; omega)
          rw [hkk] at hd hlt
          have HD := hide hd
          have HC : Hid (ofC now list = 0) := hide (by rw [hc.out, HBAD.out, hlt]; rfl)
          clear hd hlt hb hlk hkk
          go_wp2_with fail
          go_ret2
          exact .inr ⟨HC.out, q, v, rfl, HD.out, HB.out⟩
end Go.Proofs.Ytdaicdaakegdmaa
