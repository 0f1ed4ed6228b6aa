/- goods.Copy, each buyer's row in a block of its own (printed by gen_copyd.py). -/
import Derived.Test.YtffpiaipdeebcaaDoorCopy
namespace Go.Proofs.YtffpiaipdeebcaaDoor
open Go.RowKit Go.Maps
open Go.ChangeMaps Go.WideMaps

/-- No two rows lie in one block. -/
def DistH (hs : List Hdr) : Prop := hs.Pairwise fun a b => ∀ g o t, a.1 = some ⟨g, o, t⟩ → ∀ o' t', b.1 ≠ some ⟨g, o', t'⟩
def DistB (B : Nat) (hs : List Hdr) : Prop := DistH hs ∧ ∀ h ∈ hs, ∀ g o t, h.1 = some ⟨g, o, t⟩ → g < B
theorem DistB.nil (B : Nat) : DistB B [] := ⟨List.Pairwise.nil, fun h hh => by cases hh⟩
theorem DistB.push {w w2 w3 : World} {hs : List Hdr} {A : Option Addr} {c n : Nat} {xs : List Value} (h : DistB w.heap.size hs) (ho : w2.ownsRow w.heap.size 74 2 (.slice A n c) n xs) (h2 : w.heap.size ≤ w2.heap.size) (h3 : w2.heap.size ≤ w3.heap.size) : DistB w3.heap.size (hs ++ [(A, c)]) := by
  have hA : ∀ g o t, A = some ⟨g, o, t⟩ → w.heap.size ≤ g ∧ g < w2.heap.size := fun g o t e => ho.lt g (by subst e; rfl)
  refine ⟨List.pairwise_append.2 ⟨h.1, List.pairwise_singleton _ _, fun a ha b hb g o t e o' t' e' => ?_⟩, fun x hx g o t e => ?_⟩
  · simp at hb
    subst hb
    have h4 := h.2 a ha g o t e
    have h5 := hA g o' t' e'
    omega
  · rcases List.mem_append.1 hx with hx | hx
    · have := h.2 x hx g o t e; omega
    · simp at hx
      subst hx
      have := hA g o t e
      omega
def CopyDP (n : Int) (ls : List (List Offer)) (w : World) (e : Ending) (w' : World) : Prop :=
  ∃ A c hs, e = .returned (instV n A ls.length c) ∧ OwnB w' w.heap.size A c hs ls ∧ DistH hs ∧ Below w.heap.size w w'
set_option maxRecDepth 100000 in
set_option maxHeartbeats 2000000 in
theorem copyd_any (n : Int) (A : Option Addr) (c : Nat) (hs : List Hdr) (ls : List (List Offer)) (w : World) (h : Buys w w.heap.size A hs ls) (hl : ls.length ≤ 1000000) (hls : BLens ls) (hnil : NilB hs) :
    Calls Tryd.prog 38 #[instV n A ls.length c] w (CopyDP n ls w) := by
  have HA := hide h
  have HL := hide hls
  have HN := hide hnil
  have HCL := hide (fun (a : Option Addr) (c : Nat) (l : List Offer) (W : World) (h1 : Offs W W.heap.size a l) (h2 : l.length ≤ 1000000) (h3 : a = none → c = 0) => clone_any a c l W h1 h2 h3)
  clear h hls hnil
  simp only [instV]
  go_enter Tryd.func38, Tryd.ntmps38
  go_wp2_with fail
  have HST : Hid (OwnB (((w.alloc (.cells #[.int .i64 n, .slice A ls.length c] 49)).alloc (.cells #[.int .i64 0, .slice none 0 0] 49)).alloc (.cells #[] 63)) (w.heap.size + 2) (some ⟨w.heap.size + 2, 0, none⟩) 0 [] []) :=
    hide ⟨rfl, by
      have := World.ownsRow_made (base := w.heap.size + 2) (e := 63) (size := 1) ((w.alloc (.cells #[.int .i64 n, .slice A ls.length c] 49)).alloc (.cells #[.int .i64 0, .slice none 0 0] 49)) #[] 0 (by simp) (by decide) rfl
      simpa using this, fun i h l hh => by simp at hh, fun h hh => by cases hh⟩
  have HB0 : Hid (Below w.heap.size w (((w.alloc (.cells #[.int .i64 n, .slice A ls.length c] 49)).alloc (.cells #[.int .i64 0, .slice none 0 0] 49)).alloc (.cells #[] 63))) := hide ((((Below.refl _ _).alloc (Nat.le_refl _) _).alloc (by simp) _).alloc (by simp; omega) _)
  have HX : Hid ((((w.alloc (.cells #[.int .i64 n, .slice A ls.length c] 49)).alloc (.cells #[.int .i64 0, .slice none 0 0] 49)).alloc (.cells #[] 63)).heap[w.heap.size]? = some (.cells #[.int .i64 n, .slice A ls.length c] 49 (0, 0)) ∧
      (((w.alloc (.cells #[.int .i64 n, .slice A ls.length c] 49)).alloc (.cells #[.int .i64 0, .slice none 0 0] 49)).alloc (.cells #[] 63)).heap[w.heap.size + 1]? = some (.cells #[.int .i64 0, .slice none 0 0] 49 (0, 0))) := hide ⟨by
    rw [Below.heap_alloc _ _ _ (by simp; omega), Below.heap_alloc _ _ _ (by simp)]; exact heap_alloc_new w _, by
    rw [Below.heap_alloc _ _ _ (by simp)]
    have := heap_alloc_new (w.alloc (.cells #[.int .i64 n, .slice A ls.length c] 49)) (.cells #[.int .i64 0, .slice none 0 0] 49)
    simpa using this⟩
  generalize ((w.alloc (.cells #[.int .i64 n, .slice A ls.length c] 49)).alloc (.cells #[.int .i64 0, .slice none 0 0] 49)).alloc (.cells #[] 63) = w1 at *
  go_loopw [3, 10] (fun v iv wr => ∃ (i : Nat) (A' : Option Addr) (c' : Nat) (hs' : List Hdr), i ≤ ls.length ∧ iv = .int .i64 i ∧ v = .slice A' i c' ∧ OwnB wr (w.heap.size + 2) A' c' hs' (ls.take i) ∧ Below (w.heap.size + 2) w1 wr ∧ DistB wr.heap.size hs') (fun _ iv _ => ls.length - (intOf iv).toNat)
  case atStart => exact ⟨0, _, _, [], Nat.zero_le _, rfl, rfl, HST.out, Below.refl _ _, DistB.nil _⟩
  case round =>
    obtain ⟨i, A', c', hs', hi, rfl, rfl, ho, hb, hd⟩ := hrel
    have HD := hide hd
    clear hd
    have HO := hide ho
    have hbw : Below w.heap.size w wr := HB0.out.trans (hb.mono (by omega))
    have hsz : w.heap.size + 2 ≤ w1.heap.size := by have := lt_of_block HX.out.2; omega
    have hx0 := (hb.block w.heap.size (by omega)).trans HX.out.1
    have hx1 := (hb.block (w.heap.size + 1) (by omega)).trans HX.out.2
    have HBW := hide hbw
    have HB := hide hb
    have hzr := hb.size
    by_cases hlt : i < ls.length
    · obtain ⟨⟨a1, a2⟩, l, ha, hlx, hro, hca⟩ := HA.out.get hlt
      obtain ⟨bb, bo, rfl, hbB, hat⟩ := HA.out.at_ (by omega)
      have hcell := (hbw.cell (p := ⟨bb, bo + i, none⟩) hbB).trans (hat i _ l ha hlx)
      simp only at hcell hro
      have HC := hide (HCL.out a1 a2 l wr (hro.up hbw) (HL.out l (List.mem_of_getElem? hlx)) (fun e => HN.out (a1, a2) (List.mem_of_getElem? ha) e))
      have HLX := hide hlx
      have hln : (ls.take i).length = i := by simp; omega
      have HLN := hide hln
      have G1 : Hid (∀ (A2 : Option Addr) (n2 c2 : Nat), ∀ u ∈ [Value.slice A2 n2 c2], u.oneCell' = true) := hide (fun A2 n2 c2 u hu => by simp at hu; subst hu; rfl)
      have G2 : Hid (i + 1 ≤ maxLen) := hide (by unfold maxLen; omega)
      have G3 : Hid ((i + 1) * 24 ≤ 140737488355328) := hide (by omega)
      clear hat ha hlx hro hca ho hb hbw hx0 hx1 hln
      go_wp2_with fail
      refine (HC.out).mono ?_
      rintro e w2 ⟨A2, c2, rfl, hown2, hb2⟩
      have HO2 := hide (HO.out.below hb2)
      have HOW2 := hide hown2
      have HB2 := hide hb2
      have G4 : Hid (w.heap.size + 2 ≤ w2.heap.size) := hide (by have := hb2.size; omega)
      have HH : Hid (w2.ownsRow (w.heap.size + 2) 63 1 (.slice A' i c') i (List.zipWith hdrV hs' (ls.take i))) := hide (by have := HO2.out.hdr; rw [HLN.out] at this; exact this)
      clear hown2 hb2
      go_wp2_with (at_builtin; refine wpList_app rfl (.tmp 14) (.tmp 17) 47 rfl (w.heap.size + 2) (.slice none 0 0) 1 24 infoOs Tryd.underlying47 rfl (by decide) _ _ _ rfl HH.out 1 1 rfl rfl (G1.out _ _ _) G2.out G3.out G4.out ?_; intro v' w3 hown hg hlt3 hat3; obtain ⟨A3, c3, hv3, _⟩ := own_sh hown; subst hv3; have HO3 := hide hown; have HG3 := hide hg; clear hown hg hat3)
      go_roundw
      case rel =>
        refine ⟨i + 1, A3, c3, hs' ++ [(A2, c2)], by omega, by go_num, rfl, ⟨?_, ?_, ?_, ?_⟩, ?_, ?_⟩
        · have := HO.out.len
          rw [HLN.out] at this
          simp [this]
          omega
        · have hl1 : (ls.take (i + 1)).length = i + 1 := by simp; omega
          rw [hl1, List.take_add_one, HLX.out]
          rw [Option.toList_some, List.zipWith_append (by rw [HO.out.len])]
          exact HO3.out
        · intro j hd l' hj hl'
          have HG' : w2.grownBy w3 (Value.slice A' i c').ownBlock := HG3.out
          have hne : ∀ {size n : Nat} {v : Value} {xs : List Value}, w2.ownsRow (w.heap.size + 2) 74 size v n xs → w3.ownsRow (w.heap.size + 2) 74 size v n xs := by
            intro size n v xs ho
            refine own_far ho HG' ?_
            rcases HH.out.2 with ⟨h1, _⟩ | ⟨g, cap, cur, h1, _, hh, _⟩
            · rw [h1]
              rcases ho.2 with ⟨rfl, _⟩ | ⟨g', cap', cur', rfl, _⟩
              · exact .inr rfl
              · exact .inl (by simp [Value.ownBlock])
            · left
              rw [h1]
              exact own_ne ho hh (by simp)
          have hlen : hs'.length = i := by have := HO.out.len; rw [HLN.out] at this; exact this
          rw [List.take_add_one, HLX.out] at hl'
          rcases Nat.lt_or_ge j i with h1 | h1
          · rw [List.getElem?_append_left (by omega)] at hj
            rw [List.getElem?_append_left (by simp; omega)] at hl'
            exact hne (HO2.out.row j hd l' hj hl')
          · rw [List.getElem?_append_right (by omega)] at hj
            rw [List.getElem?_append_right (by simp; omega)] at hl'
            have hj0 : j - hs'.length = 0 := by
              rcases Nat.eq_zero_or_pos (j - hs'.length) with h2 | h2
              · exact h2
              · rw [List.getElem?_eq_none (by simp; omega)] at hj; cases hj
            rw [hj0] at hj
            have hl0 : j - (ls.take i).length = 0 := by rw [HLN.out]; omega
            rw [hl0] at hl'
            simp at hj hl'
            subst hj hl'
            exact hne (own_base HOW2.out (by omega))
        · intro hd hh e
          rcases List.mem_append.1 hh with h1 | h1
          · exact HO.out.nil hd h1 e
          · simp at h1
            subst h1
            simp only at e
            subst e
            rcases HOW2.out.2 with ⟨h1, _⟩ | ⟨g, cap, cur, h1, _⟩
            · injection h1
            · injection h1 with h1; cases h1
        · refine ((HB.out.trans (HB2.out.mono (by omega)))).grown HG3.out (by have := HB2.out.size; omega) (fun j hj => (HH.out.lt j hj).1)
        · exact HD.out.push HOW2.out HB2.out.size (Nat.le_trans (Nat.le_refl _) HG3.out.size)
      case measure => simp [intOf]; omega
    · obtain rfl : i = ls.length := by omega
      have e0 := cell_of_row wr w.heap.size 0 _ _ (0, 0) hx0
      have e1 := cell_of_row wr w.heap.size 1 _ _ (0, 0) hx0
      have f0 := cell_of_row wr (w.heap.size + 1) 0 _ _ (0, 0) hx1
      have f1 := cell_of_row wr (w.heap.size + 1) 1 _ _ (0, 0) hx1
      simp at e0 e1 f0 f1
      have g0 : ∀ i, wr.frozen? ⟨w.heap.size, i, none⟩ = false := fun i => by simp [World.frozen?, hx0]
      have g1 : ∀ i, wr.frozen? ⟨w.heap.size + 1, i, none⟩ = false := fun i => by simp [World.frozen?, hx1]
      go_wp2_with fail
      refine bodyPost_ret (v := instV n A' ls.length c') (by simp [results, Tryd.results38, go_sem, f0, f1]) rfl ?_
      have ho' := HO.out
      rw [List.take_of_length_le (Nat.le_refl _)] at ho'
      refine ⟨A', c', hs', rfl, ?_, HD.out.1, ?_⟩
      · have key : ∀ (W : World) (b i : Nat) (u : Value), b < w.heap.size + 2 → OwnB W (w.heap.size + 2) A' c' hs' ls → OwnB (W.setCell ⟨b, i, none⟩ u) (w.heap.size + 2) A' c' hs' ls := by
          intro W b i u hb ho
          have hf : ∀ {e size n : Nat} {v : Value} {xs : List Value}, W.ownsRow (w.heap.size + 2) e size v n xs → (W.setCell ⟨b, i, none⟩ u).ownsRow (w.heap.size + 2) e size v n xs := by
            intro e size n v xs h
            exact ownsRow_setCell_other h (fun e => by have := (h.lt _ e).1; simp at this; omega) _
          exact ⟨ho.len, hf ho.hdr, fun i a l ha hl => hf (ho.row i a l ha hl), ho.nil⟩
        exact (key _ _ _ _ (by omega) (key _ _ _ _ (by omega) (key _ _ _ _ (by omega) ho'))).base_ (by omega)
      · repeat (refine Below.setCell ?_ (by first | exact Nat.le_refl _ | (show w.heap.size ≤ w.heap.size + 1; omega)) _)
        exact HBW.out
end Go.Proofs.YtffpiaipdeebcaaDoor
