/- The walks of slices.Clone at offers, goods.Copy, offers.With, offers.Without: what they compute. -/
import Derived.Test.YtffpiaipdeebcaaDoorOffW7
import Derived.Laws.OwnMore
import Derived.StillTailTactics
namespace Go.Proofs.YtffpiaipdeebcaaDoor
open Go.RowKit

theorem infoO : EI Tryd.prog 74 (.agg #[.int .u32 0, .int .i64 0]) 2 16 := by unfold EI; kernel_rfl
theorem infoOs : EI Tryd.prog 63 (.slice none 0 0) 1 24 := by unfold EI; kernel_rfl

theorem eqnil_none (w : World) : (binOp .eql 63 (.slice none 0 0) (.slice none 0 0)).run Tryd.prog w = .ok (.bool true) w := Lib.run_eql_slice_nil w _ _ none 0 0 0 0 Tryd.underlying63
theorem eqnil_some (w : World) (a : Addr) (n c : Nat) : (binOp .eql 63 (.slice (some a) n c) (.slice none 0 0)).run Tryd.prog w = .ok (.bool false) w := Lib.run_eql_slice_nil w _ _ (some a) n c 0 0 Tryd.underlying63

def ClonePost (l : List Offer) (w : World) (e : Ending) (w' : World) : Prop := ∃ A c, e = .returned (.slice A l.length c) ∧ w'.ownsRow w.heap.size 74 2 (.slice A l.length c) l.length (cells2 offV l) ∧ Below w.heap.size w w'
set_option maxHeartbeats 1000000 in
theorem clone_nil (w : World) : Calls Tryd.prog 54 #[.slice none 0 0] w (ClonePost [] w) := by
  have h1 := eqnil_none
  go_enter Tryd.func54, Tryd.ntmps54
  go_wp2
  go_ret
  exact ⟨none, 0, rfl, World.ownsRow_nil _ _ _ _, Below.refl _ _⟩
set_option maxHeartbeats 1000000 in
theorem clone_some (a : Addr) (c : Nat) (l : List Offer) (w : World) (h : Offs w w.heap.size (some a) l) (hl : l.length ≤ 1000000) :
    Calls Tryd.prog 54 #[.slice (some a) l.length c] w (ClonePost l w) := by
  have h1 := eqnil_some
  have HA := hide h
  have HO1 : Hid ((w.alloc (.cells #[] 74)).ownsRow w.heap.size 74 2 (.slice (some ⟨w.heap.size, 0, none⟩) 0 0) 0 []) := hide (World.ownsRow_made w #[] 0 (Nat.le_refl _) (by decide) rfl)
  have HB : Hid (Below w.heap.size w (w.alloc (.cells #[] 74))) := hide ((Below.refl _ _).alloc (Nat.le_refl _) _)
  have G1 := hide (off_one l)
  have G5 : Hid (0 + l.length ≤ maxLen) := hide (by unfold maxLen; omega)
  have G6 : Hid ((0 + l.length) * 16 ≤ 140737488355328) := hide (by omega)
  clear h
  go_enter Tryd.func54, Tryd.ntmps54
  go_wp2_with (at_builtin; refine wpList_append_any rfl (.tmp 5) (.tmp 6) 63 rfl w.heap.size 74 _ 2 16 infoO Tryd.underlying63 rfl (by decide) _ 0 [] rfl HO1.out w.heap.size (some a) l.length c (cells2 offV l) rfl (HA.out.below HB.out) G1.out G5.out G6.out HB.out.size ?_; intro v1 w1 hown1 hg1 _; have HO := hide hown1; have HG := hide hg1; clear hown1 hg1)
  go_ret
  obtain ⟨A, c', hv, _⟩ := own_sh HO.out
  subst hv
  have h5 := HO.out
  rw [Nat.zero_add, List.nil_append] at h5
  refine ⟨A, c', by rw [Nat.zero_add]; rfl, h5, HB.out.grown HG.out HB.out.size (fun j hj => by have := Option.some.inj (show some w.heap.size = some j from hj); omega)⟩
theorem clone_any (A : Option Addr) (c : Nat) (l : List Offer) (w : World) (h : Offs w w.heap.size A l) (hl : l.length ≤ 1000000) (hz : A = none → c = 0) :
    Calls Tryd.prog 54 #[.slice A l.length c] w (ClonePost l w) := by
  rcases A with _ | a
  · have h0 : l.length = 0 := by
      rcases Nat.eq_zero_or_pos l.length with h0 | h0
      · exact h0
      · obtain ⟨b, o, e, _⟩ := h.2 h0
        cases e
    obtain rfl := List.eq_nil_of_length_eq_zero h0
    rw [hz rfl]
    exact clone_nil w
  · exact clone_some a c l w h hl

/-- Buyers in memory that the call itself has made. -/
structure OwnB (w : World) (base : Nat) (A : Option Addr) (c : Nat) (hs : List Hdr) (ls : List (List Offer)) : Prop where
  len : hs.length = ls.length
  hdr : w.ownsRow base 63 1 (.slice A ls.length c) ls.length (List.zipWith hdrV hs ls)
  row : ∀ (i : Nat) (h : Hdr) (l : List Offer), hs[i]? = some h → ls[i]? = some l → w.ownsRow base 74 2 (hdrV h l) l.length (cells2 offV l)
  nil : ∀ h ∈ hs, h.1 = none → h.2 = 0
section
variable {w w' : World} {base : Nat} {A : Option Addr} {c : Nat} {hs : List Hdr} {ls : List (List Offer)}
theorem OwnB.buys (h : OwnB w base A c hs ls) : Buys w w.heap.size A hs ls := by
  refine ⟨h.len, ?_, fun i a l ha hl => ?_⟩
  · have := Reads.of_own h.hdr
    exact this
  · have h1 := h.row i a l ha hl
    obtain ⟨A', c', e, h2⟩ := own_sh h1
    unfold hdrV at e h1
    exact ⟨Two.of_own h1 rfl, by injection e with _ _ e; omega⟩
theorem OwnB.below (h : OwnB w base A c hs ls) (hb : Below w.heap.size w w') : OwnB w' base A c hs ls :=
  ⟨h.len, own_below h.hdr hb (Nat.le_refl _), fun i a l ha hl => own_below (h.row i a l ha hl) hb (Nat.le_refl _), h.nil⟩
theorem OwnB.base_ (h : OwnB w base A c hs ls) {b : Nat} (hb : b ≤ base) : OwnB w b A c hs ls :=
  ⟨h.len, own_base h.hdr hb, fun i a l ha hl => own_base (h.row i a l ha hl) hb, h.nil⟩
/-- Nothing but a block that is none of these has turned. -/
theorem OwnB.far (h : OwnB w base A c hs ls) {row : Option Nat} (hg : w.grownBy w' row) (h1 : ∀ j, row = some j → w.heap.size ≤ j ∨ j < base ∨ ∃ cs t, w.heap[j]? = some (.cells cs t (0, 0)) ∧ t ≠ 74 ∧ t ≠ 63) : OwnB w' base A c hs ls := by
  have key : ∀ {e size n : Nat} {v : Value} {xs : List Value}, w.ownsRow base e size v n xs → (e = 74 ∨ e = 63) → w'.ownsRow base e size v n xs := by
    intro e size n v xs ho he
    refine own_far ho hg ?_
    rcases row with _ | j
    · rcases ho.2 with ⟨rfl, _⟩ | ⟨g, cap, cur, rfl, _⟩
      · exact .inr rfl
      · exact .inl (by simp [Value.ownBlock])
    · left
      intro e1
      have := ho.lt j e1
      rcases h1 j rfl with h2 | h2 | ⟨cs, t, h2, h3, h4⟩
      · omega
      · omega
      · exact own_ne ho h2 (fun cur h5 => by injection h5 with _ h5 _; subst h5; rcases he with rfl | rfl; exact h3 rfl; exact h4 rfl) e1
  exact ⟨h.len, key h.hdr (.inr rfl), fun i a l ha hl => key (h.row i a l ha hl) (.inl rfl), h.nil⟩
end
theorem hdr_cells {h : Hdr} {l : List Offer} : (hdrV h l).oneCell' = true := rfl
def NilB (hs : List Hdr) : Prop := ∀ h ∈ hs, h.1 = none → h.2 = 0

def CopyPost (n : Int) (ls : List (List Offer)) (w : World) (e : Ending) (w' : World) : Prop :=
  ∃ A c hs, e = .returned (instV n A ls.length c) ∧ OwnB w' w.heap.size A c hs ls ∧ Below w.heap.size w w'
set_option maxRecDepth 100000 in
set_option maxHeartbeats 2000000 in
theorem copy_any (n : Int) (A : Option Addr) (c : Nat) (hs : List Hdr) (ls : List (List Offer)) (w : World) (h : Buys w w.heap.size A hs ls) (hl : ls.length ≤ 1000000) (hls : BLens ls) (hnil : NilB hs) :
    Calls Tryd.prog 38 #[instV n A ls.length c] w (CopyPost n ls w) := by
  have HA := hide h
  have HL := hide hls
  have HN := hide hnil
  have HCL := hide (fun (a : Option Addr) (c : Nat) (l : List Offer) (W : World) (h1 : Offs W W.heap.size a l) (h2 : l.length ≤ 1000000) (h3 : a = none → c = 0) => clone_any a c l W h1 h2 h3)
  clear h hls hnil
  simp only [instV]
  go_enter Tryd.func38, Tryd.ntmps38
  go_wp2_with fail
  have HST : Hid (OwnB (((w.alloc (.cells #[.int .i64 n, .slice A ls.length c] 49)).alloc (.cells #[.int .i64 0, .slice none 0 0] 49)).alloc (.cells #[] 63)) (w.heap.size + 2) (some ⟨w.heap.size + 2, 0, none⟩) 0 [] []) :=
    hide ⟨rfl, by
      have := World.ownsRow_made (base := w.heap.size + 2) (e := 63) (size := 1) ((w.alloc (.cells #[.int .i64 n, .slice A ls.length c] 49)).alloc (.cells #[.int .i64 0, .slice none 0 0] 49)) #[] 0 (by simp) (by decide) rfl
      simpa using this, fun i h l hh => by simp at hh, fun h hh => by cases hh⟩
  have HB0 : Hid (Below w.heap.size w (((w.alloc (.cells #[.int .i64 n, .slice A ls.length c] 49)).alloc (.cells #[.int .i64 0, .slice none 0 0] 49)).alloc (.cells #[] 63))) := hide ((((Below.refl _ _).alloc (Nat.le_refl _) _).alloc (by simp) _).alloc (by simp; omega) _)
  have HX : Hid ((((w.alloc (.cells #[.int .i64 n, .slice A ls.length c] 49)).alloc (.cells #[.int .i64 0, .slice none 0 0] 49)).alloc (.cells #[] 63)).heap[w.heap.size]? = some (.cells #[.int .i64 n, .slice A ls.length c] 49 (0, 0)) ∧
      (((w.alloc (.cells #[.int .i64 n, .slice A ls.length c] 49)).alloc (.cells #[.int .i64 0, .slice none 0 0] 49)).alloc (.cells #[] 63)).heap[w.heap.size + 1]? = some (.cells #[.int .i64 0, .slice none 0 0] 49 (0, 0))) := hide ⟨by
    rw [Below.heap_alloc _ _ _ (by simp; omega), Below.heap_alloc _ _ _ (by simp)]; exact heap_alloc_new w _, by
    rw [Below.heap_alloc _ _ _ (by simp)]
    have := heap_alloc_new (w.alloc (.cells #[.int .i64 n, .slice A ls.length c] 49)) (.cells #[.int .i64 0, .slice none 0 0] 49)
    simpa using this⟩
  generalize ((w.alloc (.cells #[.int .i64 n, .slice A ls.length c] 49)).alloc (.cells #[.int .i64 0, .slice none 0 0] 49)).alloc (.cells #[] 63) = w1 at *
  go_loopw [3, 10] (fun v iv wr => ∃ (i : Nat) (A' : Option Addr) (c' : Nat) (hs' : List Hdr), i ≤ ls.length ∧ iv = .int .i64 i ∧ v = .slice A' i c' ∧ OwnB wr (w.heap.size + 2) A' c' hs' (ls.take i) ∧ Below (w.heap.size + 2) w1 wr) (fun _ iv _ => ls.length - (intOf iv).toNat)
  case atStart => exact ⟨0, _, _, [], Nat.zero_le _, rfl, rfl, HST.out, Below.refl _ _⟩
  case round =>
    obtain ⟨i, A', c', hs', hi, rfl, rfl, ho, hb⟩ := hrel
    have HO := hide ho
    have hbw : Below w.heap.size w wr := HB0.out.trans (hb.mono (by omega))
    have hsz : w.heap.size + 2 ≤ w1.heap.size := by have := lt_of_block HX.out.2; omega
    have hx0 := (hb.block w.heap.size (by omega)).trans HX.out.1
    have hx1 := (hb.block (w.heap.size + 1) (by omega)).trans HX.out.2
    have HBW := hide hbw
    have HB := hide hb
    have hzr := hb.size
    by_cases hlt : i < ls.length
    · obtain ⟨⟨a1, a2⟩, l, ha, hlx, hro, hca⟩ := HA.out.get hlt
      obtain ⟨bb, bo, rfl, hbB, hat⟩ := HA.out.at_ (by omega)
      have hcell := (hbw.cell (p := ⟨bb, bo + i, none⟩) hbB).trans (hat i _ l ha hlx)
      simp only at hcell hro
      have HC := hide (HCL.out a1 a2 l wr (hro.up hbw) (HL.out l (List.mem_of_getElem? hlx)) (fun e => HN.out (a1, a2) (List.mem_of_getElem? ha) e))
      have HLX := hide hlx
      have hln : (ls.take i).length = i := by simp; omega
      have HLN := hide hln
      have G1 : Hid (∀ (A2 : Option Addr) (n2 c2 : Nat), ∀ u ∈ [Value.slice A2 n2 c2], u.oneCell' = true) := hide (fun A2 n2 c2 u hu => by simp at hu; subst hu; rfl)
      have G2 : Hid (i + 1 ≤ maxLen) := hide (by unfold maxLen; omega)
      have G3 : Hid ((i + 1) * 24 ≤ 140737488355328) := hide (by omega)
      clear hat ha hlx hro hca ho hb hbw hx0 hx1 hln
      go_wp2_with fail
      refine (HC.out).mono ?_
      rintro e w2 ⟨A2, c2, rfl, hown2, hb2⟩
      have HO2 := hide (HO.out.below hb2)
      have HOW2 := hide hown2
      have HB2 := hide hb2
      have G4 : Hid (w.heap.size + 2 ≤ w2.heap.size) := hide (by have := hb2.size; omega)
      have HH : Hid (w2.ownsRow (w.heap.size + 2) 63 1 (.slice A' i c') i (List.zipWith hdrV hs' (ls.take i))) := hide (by have := HO2.out.hdr; rw [HLN.out] at this; exact this)
      clear hown2 hb2
      go_wp2_with (at_builtin; refine wpList_app rfl (.tmp 14) (.tmp 17) 47 rfl (w.heap.size + 2) (.slice none 0 0) 1 24 infoOs Tryd.underlying47 rfl (by decide) _ _ _ rfl HH.out 1 1 rfl rfl (G1.out _ _ _) G2.out G3.out G4.out ?_; intro v' w3 hown hg hlt3 hat3; obtain ⟨A3, c3, hv3, _⟩ := own_sh hown; subst hv3; have HO3 := hide hown; have HG3 := hide hg; clear hown hg hat3)
      go_roundw
      case rel =>
        refine ⟨i + 1, A3, c3, hs' ++ [(A2, c2)], by omega, by go_num, rfl, ⟨?_, ?_, ?_, ?_⟩, ?_⟩
        · have := HO.out.len
          rw [HLN.out] at this
          simp [this]
          omega
        · have hl1 : (ls.take (i + 1)).length = i + 1 := by simp; omega
          rw [hl1, List.take_add_one, HLX.out]
          rw [Option.toList_some, List.zipWith_append (by rw [HO.out.len])]
          exact HO3.out
        · intro j hd l' hj hl'
          have HG' : w2.grownBy w3 (Value.slice A' i c').ownBlock := HG3.out
          have hne : ∀ {size n : Nat} {v : Value} {xs : List Value}, w2.ownsRow (w.heap.size + 2) 74 size v n xs → w3.ownsRow (w.heap.size + 2) 74 size v n xs := by
            intro size n v xs ho
            refine own_far ho HG' ?_
            rcases HH.out.2 with ⟨h1, _⟩ | ⟨g, cap, cur, h1, _, hh, _⟩
            · rw [h1]
              rcases ho.2 with ⟨rfl, _⟩ | ⟨g', cap', cur', rfl, _⟩
              · exact .inr rfl
              · exact .inl (by simp [Value.ownBlock])
            · left
              rw [h1]
              exact own_ne ho hh (by simp)
          have hlen : hs'.length = i := by have := HO.out.len; rw [HLN.out] at this; exact this
          rw [List.take_add_one, HLX.out] at hl'
          rcases Nat.lt_or_ge j i with h1 | h1
          · rw [List.getElem?_append_left (by omega)] at hj
            rw [List.getElem?_append_left (by simp; omega)] at hl'
            exact hne (HO2.out.row j hd l' hj hl')
          · rw [List.getElem?_append_right (by omega)] at hj
            rw [List.getElem?_append_right (by simp; omega)] at hl'
            have hj0 : j - hs'.length = 0 := by
              rcases Nat.eq_zero_or_pos (j - hs'.length) with h2 | h2
              · exact h2
              · rw [List.getElem?_eq_none (by simp; omega)] at hj; cases hj
            rw [hj0] at hj
            have hl0 : j - (ls.take i).length = 0 := by rw [HLN.out]; omega
            rw [hl0] at hl'
            simp at hj hl'
            subst hj hl'
            exact hne (own_base HOW2.out (by omega))
        · intro hd hh e
          rcases List.mem_append.1 hh with h1 | h1
          · exact HO.out.nil hd h1 e
          · simp at h1
            subst h1
            simp only at e
            subst e
            rcases HOW2.out.2 with ⟨h1, _⟩ | ⟨g, cap, cur, h1, _⟩
            · injection h1
            · injection h1 with h1; cases h1
        · refine ((HB.out.trans (HB2.out.mono (by omega)))).grown HG3.out (by have := HB2.out.size; omega) (fun j hj => (HH.out.lt j hj).1)
      case measure => simp [intOf]; omega
    · obtain rfl : i = ls.length := by omega
      have e0 := cell_of_row wr w.heap.size 0 _ _ (0, 0) hx0
      have e1 := cell_of_row wr w.heap.size 1 _ _ (0, 0) hx0
      have f0 := cell_of_row wr (w.heap.size + 1) 0 _ _ (0, 0) hx1
      have f1 := cell_of_row wr (w.heap.size + 1) 1 _ _ (0, 0) hx1
      simp at e0 e1 f0 f1
      have g0 : ∀ i, wr.frozen? ⟨w.heap.size, i, none⟩ = false := fun i => by simp [World.frozen?, hx0]
      have g1 : ∀ i, wr.frozen? ⟨w.heap.size + 1, i, none⟩ = false := fun i => by simp [World.frozen?, hx1]
      go_wp2_with fail
      refine bodyPost_ret (v := instV n A' ls.length c') (by simp [results, Tryd.results38, go_sem, f0, f1]) rfl ?_
      have ho' := HO.out
      rw [List.take_of_length_le (Nat.le_refl _)] at ho'
      refine ⟨A', c', hs', rfl, ?_, ?_⟩
      · have key : ∀ (W : World) (b i : Nat) (u : Value), b < w.heap.size + 2 → OwnB W (w.heap.size + 2) A' c' hs' ls → OwnB (W.setCell ⟨b, i, none⟩ u) (w.heap.size + 2) A' c' hs' ls := by
          intro W b i u hb ho
          have hf : ∀ {e size n : Nat} {v : Value} {xs : List Value}, W.ownsRow (w.heap.size + 2) e size v n xs → (W.setCell ⟨b, i, none⟩ u).ownsRow (w.heap.size + 2) e size v n xs := by
            intro e size n v xs h
            exact ownsRow_setCell_other h (fun e => by have := (h.lt _ e).1; simp at this; omega) _
          exact ⟨ho.len, hf ho.hdr, fun i a l ha hl => hf (ho.row i a l ha hl), ho.nil⟩
        exact (key _ _ _ _ (by omega) (key _ _ _ _ (by omega) (key _ _ _ _ (by omega) ho'))).base_ (by omega)
      · repeat (refine Below.setCell ?_ (by first | exact Nat.le_refl _ | (show w.heap.size ≤ w.heap.size + 1; omega)) _)
        exact HBW.out
end Go.Proofs.YtffpiaipdeebcaaDoor
