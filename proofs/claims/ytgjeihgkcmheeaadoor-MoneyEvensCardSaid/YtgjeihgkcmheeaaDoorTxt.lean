/- The walks of money.Text, money.Parse and the document's Text. -/
import Derived.Test.YtgjeihgkcmheeaaDoorMn2
import Derived.Test.YtgjeihgkcmheeaaDoorLay2
import Derived.Test.YtgjeihgkcmheeaaDoorPt3
import Derived.Lib.SmallJoins
import Derived.Sort.Grow
namespace Go.Proofs.YtgjeihgkcmheeaaDoor
open Go.RowKit Go.Shelf Go.Sort

/-- What the program's own variables hold. -/
structure LdW (w : World) : Prop where
  pow : Lib.TabIs Tryd.prog w "internal/strconv.uint64pow10" .u64 Lib.pow10Tab
  db : TabW w
  es : ∃ ev, w.cell? ⟨4, 0, none⟩ = some ev ∧ (ev = .nilIface ∨ ∃ te pe, ev = .iface te pe)
  er : ∃ ev, w.cell? ⟨5, 0, none⟩ = some ev ∧ (ev = .nilIface ∨ ∃ te pe, ev = .iface te pe)
theorem var_below {P : Program} {w w' : World} {n : String} {cs : Array Value} (h : w.var? P n = some cs) (hb : Below w.heap.size w w') : w'.var? P n = some cs := by
  unfold World.var? at *
  cases hg : P.globalNamed n with
  | none => rw [hg] at h; cases h
  | some g =>
    rw [hg] at h
    simp only [Option.bind_some] at h ⊢
    have hlt : g < w.heap.size := by
      rcases Nat.lt_or_ge g w.heap.size with h1 | h1
      · exact h1
      · rw [Array.getElem?_eq_none h1] at h; cases h
    rw [hb.block g hlt]
    exact h
theorem LdW.below {w w' : World} (h : LdW w) (hb : Below w.heap.size w w') : LdW w' := by
  obtain ⟨e1, h1, h2⟩ := h.es
  obtain ⟨e2, h3, h4⟩ := h.er
  exact ⟨var_below h.pow hb, h.db.below hb, ⟨e1, (hb.cell (p := ⟨4, 0, none⟩) (lt_cell h1)).trans h1, h2⟩, ⟨e2, (hb.cell (p := ⟨5, 0, none⟩) (lt_cell h3)).trans h3, h4⟩⟩
theorem below_grow (w : World) (k : Nat) (os : Array Obj) : Below w.heap.size w (grow (w.drewN k) os) := ⟨rfl, rfl, rfl, by simp [grow], fun j hj => heap_grow_old _ _ hj⟩
def textB (c : Int) : ByteArray := ⟨(Lib.itoa c).toArray⟩
set_option maxHeartbeats 1000000 in
theorem text_any (c : Int) (h0 : -9223372036854775808 ≤ c) (h1 : c ≤ 9223372036854775807) (w : World) (hL : LdW w) : Calls Tryd.prog 21 #[.int .i64 c] w (BelP (.string (textB c)) w) := by
  have HF := hide (shelf_strconv_FormatInt_10 c h0 h1 w hL.pow)
  clear h0 h1 hL
  unfold textB
  generalize Lib.itoa c = l at *
  go_enter Tryd.func21, Tryd.ntmps21
  go_wp2_with fail
  refine (HF.out).mono ?_
  rintro _ _ ⟨rfl, k, os, rfl⟩
  have HB := hide (below_grow w k os)
  go_wp2_with fail
  go_ret
  exact ⟨rfl, HB.out⟩
set_option maxHeartbeats 1000000 in
theorem docText_any (c : Int) (h0 : -9223372036854775808 ≤ c) (h1 : c ≤ 9223372036854775807) (w : World) (hL : LdW w) : Calls Tryd.prog 23 #[.int .i64 c] w (BelP (.string (textB c)) w) := by
  have HF := hide (shelf_strconv_FormatInt_10 c h0 h1 w hL.pow)
  clear h0 h1 hL
  unfold textB
  generalize Lib.itoa c = l at *
  go_enter Tryd.func23, Tryd.ntmps23
  go_wp2_with fail
  refine (HF.out).mono ?_
  rintro _ _ ⟨rfl, k, os, rfl⟩
  have HB := hide (below_grow w k os)
  go_wp2_with fail
  go_ret
  exact ⟨rfl, HB.out⟩
/-- The coins of a text. -/
def parseC (s : ByteArray) : Int × Int := match Lib.parseIntB 64 s.data.toList with
  | .ok v => if isC v = true ∧ textB v = s then (v, 0) else (0, 121)
  | _ => (0, 121)
theorem ends (r : Lib.NumEnd Int) : (∃ v, r = .ok v) ∨ r = .range ∨ r = Lib.parseIntB 64 [] := by
  cases r
  · exact .inl ⟨_, rfl⟩
  · exact .inr (.inr (by decide +kernel))
  · exact .inr (.inl rfl)
theorem ne_bytes {s t : ByteArray} (h : t ≠ s) : (t.toList == s.toList) = false := by
  rw [beq_eq_false_iff_ne, Lib.toList_data, Lib.toList_data]
  exact fun e => h (by
    cases s; cases t
    simp only [ByteArray.mk.injEq]
    exact Array.toList_inj.1 e)
set_option maxRecDepth 100000 in
set_option maxHeartbeats 4000000 in
theorem parse_any (s : ByteArray) (hs : s.size ≤ 281474976710656) (w : World) (hL : LdW w) : Calls Tryd.prog 19 #[.string s] w (BelP (.tuple #[.int .i64 (parseC s).1, .int .i64 (parseC s).2]) w) := by
  have HLD := hide hL
  rcases ends (Lib.parseIntB 64 s.data.toList) with ⟨v, hp⟩ | hp | hp
  · have HI := hide (shelf_strconv_ParseInt_10_at64_ok s (by omega) v hp w)
    have hpc : parseC s = if isC v = true ∧ textB v = s then (v, 0) else (0, 121) := by unfold parseC; rw [hp]
    have HA := hide (fun W => are_any v W)
    have HPC := hide hpc
    obtain ⟨r1, h1⟩ : ∃ r, (parseC s).1 = r := ⟨_, rfl⟩
    obtain ⟨r2, h2⟩ : ∃ r, (parseC s).2 = r := ⟨_, rfl⟩
    rw [h1, h2]
    rw [hpc] at h1 h2
    cases hc : isC v with
    | false =>
      rw [hc] at h1 h2 HA
      rw [if_neg (by simp)] at h1 h2
      have HE : Hid (0 = r1 ∧ 121 = r2) := hide ⟨h1, h2⟩
      clear hp hpc h1 h2 hc hs hL
      go_enter Tryd.func19, Tryd.ntmps19
      go_wp2_with fail
      refine (HI.out).mono ?_
      rintro _ w1 ⟨rfl, hw⟩
      have HB : Hid (Below w.heap.size w w1) := hide (by
        rcases hw with rfl | ⟨t, rfl⟩
        · exact Below.refl _ _
        · exact Go.Joins.below_bytesWorld w.heap.size w _ t (Nat.le_refl _))
      clear hw
      go_wp2_with fail
      refine (HA.out _).mono ?_
      rintro _ _ ⟨rfl, rfl⟩
      go_wp2_with fail
      go_ret2
      exact ⟨by rw [← HE.out.1, ← HE.out.2]; rfl, HB.out⟩
    | true =>
      rw [hc] at h1 h2 HA
      have hcb := isC_iff.1 hc
      have HT := hide (fun W hW => text_any v (by omega) (by omega) W hW)
      obtain ⟨T, hT⟩ : ∃ T, T = textB v := ⟨_, rfl⟩
      rw [← hT] at HT h1 h2
      by_cases he : T = s
      · rw [if_pos ⟨rfl, he⟩] at h1 h2
        have HE : Hid (v = r1 ∧ 0 = r2) := hide ⟨h1, h2⟩
        have hts : (T.toList == s.toList) = true := by rw [he]; simp
        clear hp hpc h1 h2 hc hs hL hcb hT he
        go_enter Tryd.func19, Tryd.ntmps19
        go_wp2_with fail
        refine (HI.out).mono ?_
        rintro _ w1 ⟨rfl, hw⟩
        have HB : Hid (Below w.heap.size w w1) := hide (by
          rcases hw with rfl | ⟨t, rfl⟩
          · exact Below.refl _ _
          · exact Go.Joins.below_bytesWorld w.heap.size w _ t (Nat.le_refl _))
        clear hw
        go_wp2_with fail
        refine (HA.out _).mono ?_
        rintro _ _ ⟨rfl, rfl⟩
        go_wp2_with fail
        refine (HT.out _ (HLD.out.below HB.out)).mono ?_
        rintro _ w2 ⟨rfl, hb2⟩
        have HB2 := hide (HB.out.trans (hb2.mono HB.out.size))
        clear hb2
        go_wp2_with fail
        go_ret2
        exact ⟨by rw [← HE.out.1, ← HE.out.2]; rfl, HB2.out⟩
      · rw [if_neg (fun h => he h.2)] at h1 h2
        have HE : Hid (0 = r1 ∧ 121 = r2) := hide ⟨h1, h2⟩
        have hts := ne_bytes he
        clear hp hpc h1 h2 hc hs hL hcb hT he
        go_enter Tryd.func19, Tryd.ntmps19
        go_wp2_with fail
        refine (HI.out).mono ?_
        rintro _ w1 ⟨rfl, hw⟩
        have HB : Hid (Below w.heap.size w w1) := hide (by
          rcases hw with rfl | ⟨t, rfl⟩
          · exact Below.refl _ _
          · exact Go.Joins.below_bytesWorld w.heap.size w _ t (Nat.le_refl _))
        clear hw
        go_wp2_with fail
        refine (HA.out _).mono ?_
        rintro _ _ ⟨rfl, rfl⟩
        go_wp2_with fail
        refine (HT.out _ (HLD.out.below HB.out)).mono ?_
        rintro _ w2 ⟨rfl, hb2⟩
        have HB2 := hide (HB.out.trans (hb2.mono HB.out.size))
        clear hb2
        go_wp2_with fail
        go_ret2
        exact ⟨by rw [← HE.out.1, ← HE.out.2]; rfl, HB2.out⟩
  · obtain ⟨ev, h1, h2⟩ := hL.er
    have HI := hide (shelf_strconv_ParseInt_10_at64_range s hs hp ev w h1 h2)
    have hpc : parseC s = (0, 121) := by unfold parseC; rw [hp]
    rw [hpc]
    generalize Lib.intSat 64 s.data.toList = v at *
    clear hp hpc h1 h2 hs hL
    go_enter Tryd.func19, Tryd.ntmps19
    go_wp2_with fail
    refine (HI.out).mono ?_
    rintro _ w1 ⟨N, rfl, _, _, hb⟩
    have HB := hide hb
    clear hb
    go_wp2_with fail
    go_ret2
    exact ⟨rfl, HB.out⟩
  · obtain ⟨ev, h1, h2⟩ := hL.es
    have HI := hide (shelf_strconv_ParseInt_10_at64_wrong s hs hp ev w h1 h2)
    have hpc : parseC s = (0, 121) := by unfold parseC; rw [hp]; rfl
    rw [hpc]
    clear hp hpc h1 h2 hs hL
    go_enter Tryd.func19, Tryd.ntmps19
    go_wp2_with fail
    refine (HI.out).mono ?_
    rintro _ w1 ⟨N, rfl, _, _, hb⟩
    have HB := hide hb
    clear hb
    go_wp2_with fail
    go_ret2
    exact ⟨rfl, HB.out⟩
end Go.Proofs.YtgjeihgkcmheeaaDoor
