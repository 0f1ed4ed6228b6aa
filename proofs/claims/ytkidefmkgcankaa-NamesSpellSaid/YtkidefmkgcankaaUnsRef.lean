/- The walk of the reference's Unspell. -/
import Derived.Test.YtkidefmkgcankaaUnsAll
import Derived.Deep.RegionLaw
namespace Go.Proofs.Ytkidefmkgcankaa
open Go.RowKit

def dg (c : Int) : Int := if 48 ≤ c ∧ c ≤ 57 then c - 48 else if 97 ≤ c ∧ c ≤ 102 then c - 97 + 10 else 99
theorem dg_hv {c : Int} (h : 0 ≤ hv c) : dg c = hv c ∧ hv c ≤ 15 := by
  unfold dg hv at *
  by_cases h1 : 48 ≤ c ∧ c ≤ 57
  · rw [if_pos h1] at *; rw [if_pos h1]; omega
  · rw [if_neg h1] at *; rw [if_neg h1]
    by_cases h2 : 97 ≤ c ∧ c ≤ 102
    · rw [if_pos h2] at *; rw [if_pos h2]; omega
    · rw [if_neg h2] at h; omega
theorem dg_pos (c : Int) : 0 ≤ dg c ∧ dg c ≤ 99 := by
  unfold dg
  by_cases h1 : 48 ≤ c ∧ c ≤ 57
  · rw [if_pos h1]; omega
  · rw [if_neg h1]
    by_cases h2 : 97 ≤ c ∧ c ≤ 102
    · rw [if_pos h2]; omega
    · rw [if_neg h2]; omega

set_option maxHeartbeats 1000000 in
theorem digit_any (c : Int) (w : World) (h0 : 0 ≤ c) (h1 : c ≤ 255) :
    Calls Try.prog 27 #[.int .u8 c] w fun e w' => e = .returned (.int .i64 (dg c)) ∧ w = w' := by
  by_cases a1 : 48 ≤ c
  · by_cases a2 : c ≤ 57
    · rw [show dg c = c - 48 from by unfold dg; rw [if_pos ⟨a1, a2⟩]]
      go_enter Try.func27, Try.ntmps27
      go_wp2
      go_ret
      simp
    · by_cases a3 : 97 ≤ c
      · by_cases a4 : c ≤ 102
        · rw [show dg c = c - 97 + 10 from by unfold dg; rw [if_neg (by omega), if_pos ⟨a3, a4⟩]]
          go_enter Try.func27, Try.ntmps27
          go_wp2
          go_ret
          simp
        · rw [show dg c = 99 from by unfold dg; rw [if_neg (by omega), if_neg (by omega)]]
          go_enter Try.func27, Try.ntmps27
          go_wp2
          go_ret
          simp
      · rw [show dg c = 99 from by unfold dg; rw [if_neg (by omega), if_neg (by omega)]]
        go_enter Try.func27, Try.ntmps27
        go_wp2
        go_ret
        simp
  · rw [show dg c = 99 from by unfold dg; rw [if_neg (by omega), if_neg (by omega)]]
    go_enter Try.func27, Try.ntmps27
    go_wp2
    go_ret
    simp

structure RuRel (s : ByteArray) (w : World) (acc : List Int) (i : Nat) (v : Value) (wr : World) : Prop where
  row : URow s w v acc wr
  lo : 1 ≤ i
  hi : i ≤ s.size ∨ i = 1
  len : acc.length + 1 ≤ i
  byte : ∀ n ∈ acc, IsByte n
  pre : ∀ x, Spelt s x → Pre s acc i

theorem spell_any_ref (s : ByteArray) (w : World) (hs : s.size ≤ 1000000) : Calls Try.prog 11 #[.string s] w fun e w' => e = .returned (.string (strI (34 :: spellI (bytesI s) ++ [34]))) ∧ Below w.heap.size w w' := refspell_any s w hs

set_option maxRecDepth 100000 in
set_option maxHeartbeats 2000000 in
theorem refuns_any (s : ByteArray) (w : World) (hs : s.size ≤ 200000) :
    Calls Try.prog 9 #[.string s] w (UnPost s w) := by
  go_enter Try.func9, Try.ntmps9
  go_wp2_with fail
  go_loopw [4, 5] (fun v i wr => ∃ acc k, i = .int .i64 (k : Nat) ∧ RuRel s w acc k v wr) (fun _ i _ => s.size - (intOf i).toNat)
  case atStart => exact ⟨[], 1, rfl, nil_row s w, by omega, .inr rfl, by simp, by simp, fun x hx => Pre.start hx.ends.1 hx.ends.2.1 hx.ends.2.2⟩
  case round =>
    obtain ⟨acc, k, rfl, hr⟩ := hrel
    have hlo := hr.lo
    have hlen := hr.len
    have hi := hr.hi
    by_cases hlt : k + 1 < s.size
    · have hix0 := index_bt (s := s) (i := (k : Int)) rfl (by omega)
      have hb := bt_byte (s := s) (k := k) (by omega)
      have hat := bt_at (s := s) (k := k) (by omega)
      generalize bt s k = c at hix0 hb hat
      obtain ⟨hb0, hb1⟩ := hb
      have HA := Lib.hid hat; clear hat
      have G2 : Hid (acc.length + 1 ≤ maxLen) := hide (by unfold maxLen; omega)
      have G3 : Hid ((acc.length + 1) * 1 ≤ 140737488355328) := hide (by omega)
      have hB := hr.row.2.size
      have hkk : (k : Int) + 1 < (s.size : Int) := by omega
      clear hi
      by_cases h92 : c = 92
      · have h92' : (c != 92) = false := by simp [h92]
        have H92 := Lib.hid h92; clear h92
        by_cases hl : k + 3 < s.size
        · have hix2 := index_bt (s := s) (i := (k : Int) + 2) (k := k + 2) (by omega) (by omega)
          have hix3 := index_bt (s := s) (i := (k : Int) + 3) (k := k + 3) (by omega) (by omega)
          have hb2 := bt_byte (s := s) (k := k + 2) (by omega)
          have hb3 := bt_byte (s := s) (k := k + 3) (by omega)
          have hat2 := bt_at (s := s) (k := k + 2) (by omega)
          have hat3 := bt_at (s := s) (k := k + 3) (by omega)
          generalize bt s (k + 2) = a at hix2 hb2 hat2
          generalize bt s (k + 3) = b at hix3 hb3 hat3
          have HA2 := Lib.hid hat2; clear hat2
          have HA3 := Lib.hid hat3; clear hat3
          obtain ⟨a0, a1⟩ := hb2
          obtain ⟨b0, b1⟩ := hb3
          have hll : (k : Int) + 3 < (s.size : Int) := by omega
          have hda := dg_pos a
          have hdb := dg_pos b
          have tok : True := trivial
          have HX : Hid (∀ x, Spelt s x → 0 ≤ hv a ∧ 0 ≤ hv b ∧ plainB (16 * hv a + hv b) = false ∧ Pre s (acc ++ [16 * hv a + hv b]) (k + 4)) := hide (fun x hx => by
            have hp := hr.pre x hx
            obtain ⟨e0, e1, a', b', e2, e3, e4, e5, e6⟩ := hp.escaped (by omega) (by rw [HA.out, H92.out]) hx
            rw [HA2.out] at e2
            rw [HA3.out] at e3
            injection e2 with e2
            injection e3 with e3
            subst e2 e3
            exact ⟨e4, e5, e6, hp.code e0 (by rw [HA.out, H92.out]) e1 HA2.out HA3.out e4 e5 e6⟩)
          have HDA := hide (fun h => dg_hv (c := a) h)
          have HDB := hide (fun h => dg_hv (c := b) h)
          have HCA := hide (fun W => digit_any a W a0 a1)
          have HCB := hide (fun W => digit_any b W b0 b1)
          generalize hga : dg a = x at *
          generalize hgb : dg b = y at *
          clear hga hgb
          by_cases hx : x ≤ 15
          · by_cases hy : y ≤ 15
            · go_wp2_with (first | (go_at_call 27; have _t := tok; refine (HCA.out _).mono ?_; rintro e w' ⟨rfl, rfl⟩; clear tok) | (go_at_call 27; refine (HCB.out _).mono ?_; rintro e w' ⟨rfl, rfl⟩))
              obtain ⟨r, hr'⟩ : ∃ r, r = 16 * x + y := ⟨_, rfl⟩
              have r0 : 0 ≤ r := by omega
              have r1 : r ≤ 255 := by omega
              have q1 : IntKind.i64.wrap (16 * x) = 16 * x := IntWalk.i64_in _ (by omega)
              have q2 : IntKind.i64.wrap (16 * x + y) = r := by rw [← hr']; exact IntWalk.i64_in _ (by omega)
              have q3 : IntKind.i64.wrap ((k : Int) + 2) = (k : Int) + 2 := IntWalk.i64_in _ (by omega)
              have q4 : IntKind.i64.wrap ((k : Int) + 3) = (k : Int) + 3 := IntWalk.i64_in _ (by omega)
              have q5 : IntKind.u8.wrap r = r := by show r % 256 = r; omega
              have HR := Lib.hid hr'; clear hr'
              have G1 : Hid (∀ u ∈ [Value.int .u8 r], u.oneCell' = true) := hide (by intro u hu; simp at hu; subst hu; rfl)
              have hW : wr.drew.ownsRow w.heap.size 5 1 u4 acc.length (acc.map (Value.int .u8)) := hr.row.1
              have HW := hide hW; clear hW
              have hBB : Hid (w.heap.size ≤ wr.drew.heap.size) := hide hB
              have HRR := hide hr; clear hr hda hdb
              have tok2 : True := trivial
              go_region_law (first | (refine step_app (W := wr.drew) (news := [.int .u8 r]) rfl (.tmp 44) (.tmp 58) 68 rfl w.heap.size (.int .u8 0) 1 1 info5 Try.underlying68 rfl (by decide) _ _ _ rfl HW.out 1 1 rfl rfl G1.out G2.out G3.out hBB.out ?_; intro v' w1 hown hg hsz hat) | (go_simp; go_at_call 27; have _t := tok2; refine (HCA.out _).mono ?_; rintro e w' ⟨rfl, rfl⟩; clear tok2) | (go_simp; go_at_call 27; refine (HCB.out _).mono ?_; rintro e w' ⟨rfl, rfl⟩))
              all_goals
                have hg' : wr.grownBy w1 u4.ownBlock := ⟨hg.os, hg.tape, hg.output, hg.size, hg.block⟩
                have R : URow s w v' (acc ++ [r]) w1 := ⟨by simpa using hown, HRR.out.row.2.grown hg' hB (fun g e => (HRR.out.row.1.lt g e).1)⟩
                have RR : RuRel s w (acc ++ [r]) (k + 4) v' w1 := by
                  refine ⟨R, by omega, .inl (by omega), by simp; omega, fun n hn => ?_, fun z hz => ?_⟩
                  · rcases List.mem_append.1 hn with hn | hn
                    · exact HRR.out.byte n hn
                    · simp at hn; subst hn; exact ⟨r0, r1⟩
                  · obtain ⟨e1, e2, _, e4⟩ := HX.out z hz
                    have ea := (HDA.out e1).1
                    have eb := (HDB.out e2).1
                    rw [← ea, ← eb, ← HR.out] at e4
                    exact e4
                clear hown hg hg' hsz hat R HRR HW G1 hBB q1 q2 q3 q4 q5
                go_wp2
                go_roundw
                case rel => exact ⟨_, k + 4, by go_num, RR⟩
                case measure => simp [intOf]; omega
            · have hy' : 15 < y := by omega
              go_wp2_with (first | (go_at_call 27; have _t := tok; refine (HCA.out _).mono ?_; rintro e w' ⟨rfl, rfl⟩; clear tok) | (go_at_call 27; refine (HCB.out _).mono ?_; rintro e w' ⟨rfl, rfl⟩))
              go_ret2
              refine ⟨.inr ⟨fun z hz => ?_, rfl⟩, hr.row.2⟩
              have := HX.out z hz
              have := HDB.out this.2.1
              omega
          · have hx' : 15 < x := by omega
            go_wp2_with (first | (go_at_call 27; have _t := tok; refine (HCA.out _).mono ?_; rintro e w' ⟨rfl, rfl⟩; clear tok) | (go_at_call 27; refine (HCB.out _).mono ?_; rintro e w' ⟨rfl, rfl⟩))
            go_ret2
            refine ⟨.inr ⟨fun z hz => ?_, rfl⟩, hr.row.2⟩
            have := HX.out z hz
            have := HDA.out this.1
            omega
        · have hll : (s.size : Int) ≤ (k : Int) + 3 := by omega
          go_wp2_with fail
          go_ret2
          refine ⟨.inr ⟨fun x hx => ?_, rfl⟩, hr.row.2⟩
          have := ((hr.pre x hx).escaped (by omega) (by rw [HA.out, H92.out]) hx).1
          omega
      · have h92' : (c != 92) = true := by simp [h92]
        have H92 := hide h92; clear h92
        go_wp2_with (first | (at_builtin; refine wpList_app rfl (.tmp 17) (.tmp 21) 68 rfl w.heap.size (.int .u8 0) 1 1 info5 Try.underlying68 rfl (by decide) _ _ _ rfl hr.row.1 1 1 rfl rfl ?c1 G2.out G3.out hB ?_))
        case c1 => intro u hu; simp at hu; subst hu; rfl
        intro v' w1 hown hg hsz hat
        have R : URow s w v' (acc ++ [c]) w1 := ⟨by simpa using hown, hr.row.2.grown hg hB (fun g e => (hr.row.1.lt g e).1)⟩
        clear hown hg hsz hat
        have RR : RuRel s w (acc ++ [c]) (k + 1) v' w1 := by
          refine ⟨R, by omega, .inl (by omega), by simp; omega, fun n hn => ?_, fun x hx => ?_⟩
          · rcases List.mem_append.1 hn with hn | hn
            · exact hr.byte n hn
            · simp at hn; subst hn; exact ⟨hb0, hb1⟩
          · have hp := hr.pre x hx
            by_cases hpl : plainB c = true
            · exact hp.plain (by omega) HA.out hpl
            · exact (hp.not_plain (by omega) HA.out (by simpa using hpl) H92.out x hx).elim
        clear hr R
        go_wp2
        go_roundw
        case rel => exact ⟨_, k + 1, by go_num, RR⟩
        case measure => simp [intOf]; omega
    · have hcv := conv_own (src := 68) (dst := 9) Try.underlying68 Try.underlying5 Try.underlying9 hr.row.1
      have hkk : (s.size : Int) ≤ (k : Int) + 1 := by omega
      have hkb : (k : Int) ≤ 300000 := by omega
      have hbs := bytesI_strI acc hr.byte
      have hsz : (strI acc).size ≤ 1000000 := by
        rw [← bytesI_length, hbs]
        omega
      have hdone : ∀ x, Spelt s x → Spelt s acc := fun x hx => by
        have hp := hr.pre x hx
        have := hp.le
        exact hp.done (by omega)
      have hbyte : ∀ n ∈ 34 :: spellI acc ++ [34], IsByte n := by
        intro n hn
        simp only [List.cons_append, List.mem_cons, List.mem_append, List.not_mem_nil, or_false] at hn
        rcases hn with rfl | hn | rfl
        · exact ⟨by omega, by omega⟩
        · exact spellI_byte hr.byte n hn
        · exact ⟨by omega, by omega⟩
      have hcmp := bytesI_toList (strI (34 :: spellI acc ++ [34])) s
      rw [bytesI_strI _ hbyte] at hcmp
      have hbel := hr.row.2
      have HB := hide hr.byte
      obtain ⟨T, hT⟩ : ∃ T, T = strI (34 :: spellI acc ++ [34]) := ⟨_, rfl⟩
      have HS : Hid (∀ W, Calls Try.prog 11 #[.string (strI acc)] W fun e w' => e = .returned (.string T) ∧ Below W.heap.size W w') := hide (fun W => by
        have := spell_any_ref (strI acc) W hsz
        rw [hbs, ← hT] at this
        exact this)
      rw [← hT] at hcmp
      clear hT
      by_cases he : 34 :: spellI acc ++ [34] = bytesI s
      · rw [show (34 :: spellI acc ++ [34] == bytesI s) = true from by simp [he]] at hcmp
        have HE := hide he; clear he
        have HD := hide hdone; clear hdone
        have HROW := hide hr.row.1
        have HBS := hide hbs; clear hbs
        have HYB := hide hbyte; clear hbyte
        clear hr hi hlo hlen
        go_wp2_with (go_at_call 11; refine (HS.out _).mono ?_; rintro e w1 ⟨rfl, hb1⟩; have hcv2 := conv_own (src := 68) (dst := 9) Try.underlying68 Try.underlying5 Try.underlying9 (own_below HROW.out hb1 (Nat.le_refl _)))
        go_ret2
        exact ⟨.inl ⟨acc, ⟨HB.out, HE.out.symm⟩, rfl⟩, hbel.trans (hb1.mono hbel.size)⟩
      · rw [show (34 :: spellI acc ++ [34] == bytesI s) = false from by simpa using he] at hcmp
        have HE := hide he; clear he
        have HD := hide hdone; clear hdone
        have HBS := hide hbs; clear hbs
        have HYB := hide hbyte; clear hbyte
        clear hr hi hlo hlen
        go_wp2_with (go_at_call 11; refine (HS.out _).mono ?_; rintro e w1 ⟨rfl, hb1⟩)
        go_ret2
        exact ⟨.inr ⟨fun x hx => HE.out (HD.out x hx).2.symm, rfl⟩, hbel.trans (hb1.mono hbel.size)⟩
end Go.Proofs.Ytkidefmkgcankaa
