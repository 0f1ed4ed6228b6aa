/- goods.Copy, offers.With, offers.Without once more: each buyer's offers lie in a block of their own. (Printed by gen_withf.py.) -/
import Derived.Test.YtkiebjgpghajbaaDoorWith
namespace Go.Proofs.YtkiebjgpghajbaaDoor
open Go.RowKit

/-- The rows lie in different blocks. -/
def Far (hs : List Hdr) : Prop := ∀ (i j : Nat) (a b : Hdr) (p q : Addr), i < j → hs[i]? = some a → hs[j]? = some b → a.1 = some p → b.1 = some q → p.block ≠ q.block
theorem far_nil : Far [] := fun i j a b p q _ h => by simp at h
theorem own_lt {w : World} {base : Nat} {A : Option Addr} {c : Nat} {hs : List Hdr} {ls : List (List Offer)} (ho : OwnB w base A c hs ls) {i : Nat} {a : Hdr} {p : Addr} (ha : hs[i]? = some a) (hp : a.1 = some p) : base ≤ p.block ∧ p.block < w.heap.size := by
  have hi : i < ls.length := by have := ho.len; have := (List.getElem?_eq_some_iff.1 ha).1; omega
  have := (ho.row i a _ ha (List.getElem?_eq_getElem hi)).lt p.block (by unfold hdrV; rw [hp]; rfl)
  exact this
theorem far_push {wr w2 : World} {base c c2 n : Nat} {A A2 : Option Addr} {hs : List Hdr} {ls : List (List Offer)} {xs : List Value} (hf : Far hs) (ho : OwnB wr base A c hs ls) (h2 : w2.ownsRow wr.heap.size 67 2 (.slice A2 n c2) n xs) : Far (hs ++ [(A2, c2)]) := by
  intro i j a b p q hij ha hb hp hq
  have hj : j < (hs ++ [(A2, c2)]).length := (List.getElem?_eq_some_iff.1 hb).1
  simp at hj
  rw [List.getElem?_append_left (by omega)] at ha
  rcases Nat.lt_or_ge j hs.length with h1 | h1
  · rw [List.getElem?_append_left h1] at hb
    exact hf i j a b p q hij ha hb hp hq
  · rw [List.getElem?_append_right h1, show j - hs.length = 0 by omega] at hb
    simp at hb
    subst hb
    simp only at hq
    subst hq
    have h3 := (own_lt ho ha hp).2
    have h4 := (h2.lt q.block rfl).1
    omega
theorem far_set {w3 w5 : World} {base B c c2 n : Nat} {A A2 : Option Addr} {hs : List Hdr} {ls : List (List Offer)} {xs : List Value} (hf : Far hs) (ho : OwnB w3 base A c hs ls) (h2 : w5.ownsRow B 67 2 (.slice A2 n c2) n xs) (hB : w3.heap.size ≤ B) (k : Nat) : Far (hs.set k (A2, c2)) := by
  intro i j a b p q hij ha hb hp hq
  rw [List.getElem?_set] at ha hb
  by_cases h1 : k = i
  · subst h1
    rw [if_neg (by omega)] at hb
    simp only [if_true] at ha
    split at ha <;> simp at ha
    subst ha
    simp only at hp
    subst hp
    have h3 := (own_lt ho hb hq).2
    have h4 := (h2.lt p.block rfl).1
    omega
  · rw [if_neg h1] at ha
    by_cases h5 : k = j
    · subst h5
      simp only [if_true] at hb
      split at hb <;> simp at hb
      subst hb
      simp only at hq
      subst hq
      have h3 := (own_lt ho ha hp).2
      have h4 := (h2.lt q.block rfl).1
      omega
    · rw [if_neg h5] at hb
      exact hf i j a b p q hij ha hb hp hq

def CopyPostF (n : Int) (ls : List (List Offer)) (w : World) (e : Ending) (w' : World) : Prop :=
  ∃ A c hs, e = .returned (instV n A ls.length c) ∧ OwnB w' w.heap.size A c hs ls ∧ Far hs ∧ Below w.heap.size w w'
set_option maxRecDepth 100000 in
set_option maxHeartbeats 2000000 in
theorem copyF_any (n : Int) (A : Option Addr) (c : Nat) (hs : List Hdr) (ls : List (List Offer)) (w : World) (h : Buys w w.heap.size A hs ls) (hl : ls.length ≤ 1000000) (hls : BLens ls) (hnil : NilB hs) :
    Calls Tryd.prog 60 #[instV n A ls.length c] w (CopyPostF n ls w) := by
  have HA := hide h
  have HL := hide hls
  have HN := hide hnil
  have HCL := hide (fun (a : Option Addr) (c : Nat) (l : List Offer) (W : World) (h1 : Offs W W.heap.size a l) (h2 : l.length ≤ 1000000) (h3 : a = none → c = 0) => clone_any a c l W h1 h2 h3)
  clear h hls hnil
  simp only [instV]
  go_enter Tryd.func60, Tryd.ntmps60
  go_wp2_with fail
  have HST : Hid (OwnB (((w.alloc (.cells #[.int .i64 n, .slice A ls.length c] 35)).alloc (.cells #[.int .i64 0, .slice none 0 0] 35)).alloc (.cells #[] 22)) (w.heap.size + 2) (some ⟨w.heap.size + 2, 0, none⟩) 0 [] []) :=
    hide ⟨rfl, by
      have := World.ownsRow_made (base := w.heap.size + 2) (e := 22) (size := 1) ((w.alloc (.cells #[.int .i64 n, .slice A ls.length c] 35)).alloc (.cells #[.int .i64 0, .slice none 0 0] 35)) #[] 0 (by simp) (by decide) rfl
      simpa using this, fun i h l hh => by simp at hh, fun h hh => by cases hh⟩
  have HB0 : Hid (Below w.heap.size w (((w.alloc (.cells #[.int .i64 n, .slice A ls.length c] 35)).alloc (.cells #[.int .i64 0, .slice none 0 0] 35)).alloc (.cells #[] 22))) := hide ((((Below.refl _ _).alloc (Nat.le_refl _) _).alloc (by simp) _).alloc (by simp; omega) _)
  have HX : Hid ((((w.alloc (.cells #[.int .i64 n, .slice A ls.length c] 35)).alloc (.cells #[.int .i64 0, .slice none 0 0] 35)).alloc (.cells #[] 22)).heap[w.heap.size]? = some (.cells #[.int .i64 n, .slice A ls.length c] 35 (0, 0)) ∧
      (((w.alloc (.cells #[.int .i64 n, .slice A ls.length c] 35)).alloc (.cells #[.int .i64 0, .slice none 0 0] 35)).alloc (.cells #[] 22)).heap[w.heap.size + 1]? = some (.cells #[.int .i64 0, .slice none 0 0] 35 (0, 0))) := hide ⟨by
    rw [Below.heap_alloc _ _ _ (by simp; omega), Below.heap_alloc _ _ _ (by simp)]; exact heap_alloc_new w _, by
    rw [Below.heap_alloc _ _ _ (by simp)]
    have := heap_alloc_new (w.alloc (.cells #[.int .i64 n, .slice A ls.length c] 35)) (.cells #[.int .i64 0, .slice none 0 0] 35)
    simpa using this⟩
  generalize ((w.alloc (.cells #[.int .i64 n, .slice A ls.length c] 35)).alloc (.cells #[.int .i64 0, .slice none 0 0] 35)).alloc (.cells #[] 22) = w1 at *
  go_loopw [3, 10] (fun v iv wr => ∃ (i : Nat) (A' : Option Addr) (c' : Nat) (hs' : List Hdr), i ≤ ls.length ∧ iv = .int .i64 i ∧ v = .slice A' i c' ∧ OwnB wr (w.heap.size + 2) A' c' hs' (ls.take i) ∧ Far hs' ∧ Below (w.heap.size + 2) w1 wr) (fun _ iv _ => ls.length - (intOf iv).toNat)
  case atStart => exact ⟨0, _, _, [], Nat.zero_le _, rfl, rfl, HST.out, far_nil, Below.refl _ _⟩
  case round =>
    obtain ⟨i, A', c', hs', hi, rfl, rfl, ho, hf, hb⟩ := hrel
    have HF := hide hf
    clear hf
    have HO := hide ho
    have hbw : Below w.heap.size w wr := HB0.out.trans (hb.mono (by omega))
    have hsz : w.heap.size + 2 ≤ w1.heap.size := by have := lt_of_block HX.out.2; omega
    have hx0 := (hb.block w.heap.size (by omega)).trans HX.out.1
    have hx1 := (hb.block (w.heap.size + 1) (by omega)).trans HX.out.2
    have HBW := hide hbw
    have HB := hide hb
    have hzr := hb.size
    by_cases hlt : i < ls.length
    · obtain ⟨⟨a1, a2⟩, l, ha, hlx, hro, hca⟩ := HA.out.get hlt
      obtain ⟨bb, bo, rfl, hbB, hat⟩ := HA.out.at_ (by omega)
      have hcell := (hbw.cell (p := ⟨bb, bo + i, none⟩) hbB).trans (hat i _ l ha hlx)
      simp only at hcell hro
      have HC := hide (HCL.out a1 a2 l wr (hro.up hbw) (HL.out l (List.mem_of_getElem? hlx)) (fun e => HN.out (a1, a2) (List.mem_of_getElem? ha) e))
      have HLX := hide hlx
      have hln : (ls.take i).length = i := by simp; omega
      have HLN := hide hln
      have G1 : Hid (∀ (A2 : Option Addr) (n2 c2 : Nat), ∀ u ∈ [Value.slice A2 n2 c2], u.oneCell' = true) := hide (fun A2 n2 c2 u hu => by simp at hu; subst hu; rfl)
      have G2 : Hid (i + 1 ≤ maxLen) := hide (by unfold maxLen; omega)
      have G3 : Hid ((i + 1) * 24 ≤ 140737488355328) := hide (by omega)
      clear hat ha hlx hro hca ho hb hbw hx0 hx1 hln
      go_wp2_with fail
      refine (HC.out).mono ?_
      rintro e w2 ⟨A2, c2, rfl, hown2, hb2⟩
      have HO2 := hide (HO.out.below hb2)
      have HOW2 := hide hown2
      have HB2 := hide hb2
      have G4 : Hid (w.heap.size + 2 ≤ w2.heap.size) := hide (by have := hb2.size; omega)
      have HH : Hid (w2.ownsRow (w.heap.size + 2) 22 1 (.slice A' i c') i (List.zipWith hdrV hs' (ls.take i))) := hide (by have := HO2.out.hdr; rw [HLN.out] at this; exact this)
      clear hown2 hb2
      go_wp2_with (at_builtin; refine wpList_app rfl (.tmp 14) (.tmp 17) 33 rfl (w.heap.size + 2) (.slice none 0 0) 1 24 infoOs Tryd.underlying33 rfl (by decide) _ _ _ rfl HH.out 1 1 rfl rfl (G1.out _ _ _) G2.out G3.out G4.out ?_; intro v' w3 hown hg hlt3 hat3; obtain ⟨A3, c3, hv3, _⟩ := own_sh hown; subst hv3; have HO3 := hide hown; have HG3 := hide hg; clear hown hg hat3)
      go_roundw
      case rel =>
        refine ⟨i + 1, A3, c3, hs' ++ [(A2, c2)], by omega, by go_num, rfl, ⟨?_, ?_, ?_, ?_⟩, far_push HF.out HO.out HOW2.out, ?_⟩
        · have := HO.out.len
          rw [HLN.out] at this
          simp [this]
          omega
        · have hl1 : (ls.take (i + 1)).length = i + 1 := by simp; omega
          rw [hl1, List.take_add_one, HLX.out]
          rw [Option.toList_some, List.zipWith_append (by rw [HO.out.len])]
          exact HO3.out
        · intro j hd l' hj hl'
          have HG' : w2.grownBy w3 (Value.slice A' i c').ownBlock := HG3.out
          have hne : ∀ {size n : Nat} {v : Value} {xs : List Value}, w2.ownsRow (w.heap.size + 2) 67 size v n xs → w3.ownsRow (w.heap.size + 2) 67 size v n xs := by
            intro size n v xs ho
            refine own_far ho HG' ?_
            rcases HH.out.2 with ⟨h1, _⟩ | ⟨g, cap, cur, h1, _, hh, _⟩
            · rw [h1]
              rcases ho.2 with ⟨rfl, _⟩ | ⟨g', cap', cur', rfl, _⟩
              · exact .inr rfl
              · exact .inl (by simp [Value.ownBlock])
            · left
              rw [h1]
              exact own_ne ho hh (by simp)
          have hlen : hs'.length = i := by have := HO.out.len; rw [HLN.out] at this; exact this
          rw [List.take_add_one, HLX.out] at hl'
          rcases Nat.lt_or_ge j i with h1 | h1
          · rw [List.getElem?_append_left (by omega)] at hj
            rw [List.getElem?_append_left (by simp; omega)] at hl'
            exact hne (HO2.out.row j hd l' hj hl')
          · rw [List.getElem?_append_right (by omega)] at hj
            rw [List.getElem?_append_right (by simp; omega)] at hl'
            have hj0 : j - hs'.length = 0 := by
              rcases Nat.eq_zero_or_pos (j - hs'.length) with h2 | h2
              · exact h2
              · rw [List.getElem?_eq_none (by simp; omega)] at hj; cases hj
            rw [hj0] at hj
            have hl0 : j - (ls.take i).length = 0 := by rw [HLN.out]; omega
            rw [hl0] at hl'
            simp at hj hl'
            subst hj hl'
            exact hne (own_base HOW2.out (by omega))
        · intro hd hh e
          rcases List.mem_append.1 hh with h1 | h1
          · exact HO.out.nil hd h1 e
          · simp at h1
            subst h1
            simp only at e
            subst e
            rcases HOW2.out.2 with ⟨h1, _⟩ | ⟨g, cap, cur, h1, _⟩
            · injection h1
            · injection h1 with h1; cases h1
        · refine ((HB.out.trans (HB2.out.mono (by omega)))).grown HG3.out (by have := HB2.out.size; omega) (fun j hj => (HH.out.lt j hj).1)
      case measure => simp [intOf]; omega
    · obtain rfl : i = ls.length := by omega
      have e0 := cell_of_row wr w.heap.size 0 _ _ (0, 0) hx0
      have e1 := cell_of_row wr w.heap.size 1 _ _ (0, 0) hx0
      have f0 := cell_of_row wr (w.heap.size + 1) 0 _ _ (0, 0) hx1
      have f1 := cell_of_row wr (w.heap.size + 1) 1 _ _ (0, 0) hx1
      simp at e0 e1 f0 f1
      have g0 : ∀ i, wr.frozen? ⟨w.heap.size, i, none⟩ = false := fun i => by simp [World.frozen?, hx0]
      have g1 : ∀ i, wr.frozen? ⟨w.heap.size + 1, i, none⟩ = false := fun i => by simp [World.frozen?, hx1]
      go_wp2_with fail
      refine bodyPost_ret (v := instV n A' ls.length c') (by simp [results, Tryd.results60, go_sem, f0, f1]) rfl ?_
      have ho' := HO.out
      rw [List.take_of_length_le (Nat.le_refl _)] at ho'
      refine ⟨A', c', hs', rfl, ?_, HF.out, ?_⟩
      · have key : ∀ (W : World) (b i : Nat) (u : Value), b < w.heap.size + 2 → OwnB W (w.heap.size + 2) A' c' hs' ls → OwnB (W.setCell ⟨b, i, none⟩ u) (w.heap.size + 2) A' c' hs' ls := by
          intro W b i u hb ho
          have hf : ∀ {e size n : Nat} {v : Value} {xs : List Value}, W.ownsRow (w.heap.size + 2) e size v n xs → (W.setCell ⟨b, i, none⟩ u).ownsRow (w.heap.size + 2) e size v n xs := by
            intro e size n v xs h
            exact ownsRow_setCell_other h (fun e => by have := (h.lt _ e).1; simp at this; omega) _
          exact ⟨ho.len, hf ho.hdr, fun i a l ha hl => hf (ho.row i a l ha hl), ho.nil⟩
        exact (key _ _ _ _ (by omega) (key _ _ _ _ (by omega) (key _ _ _ _ (by omega) ho'))).base_ (by omega)
      · repeat (refine Below.setCell ?_ (by first | exact Nat.le_refl _ | (show w.heap.size ≤ w.heap.size + 1; omega)) _)
        exact HBW.out
def WithPostF (n : Int) (ls : List (List Offer)) (b : Int) (l : List Offer) (w : World) (e : Ending) (w' : World) : Prop :=
  (withE n ls b l ≠ 0 ∧ e = .returned (.tuple #[instV 0 none 0 0, .int .i64 (withE n ls b l)]) ∧ Below w.heap.size w w') ∨
  (withE n ls b l = 0 ∧ ∃ A c hs, e = .returned (.tuple #[instV n A ls.length c, .int .i64 0]) ∧ OwnB w' w.heap.size A c hs (ls.set b.toNat l) ∧ Far hs ∧ Below w.heap.size w w')
set_option maxRecDepth 100000 in
set_option maxHeartbeats 4000000 in
theorem withF_any (n : Int) (A : Option Addr) (c : Nat) (hs : List Hdr) (ls : List (List Offer)) (b : Int) (A1 : Option Addr) (c1 : Nat) (l : List Offer) (w : World) (h : Buys w w.heap.size A hs ls) (hl : ls.length ≤ 1000000) (hls : BLens ls) (hw : BWide ls) (hnil : NilB hs)
    (h1 : Offs w w.heap.size A1 l) (hl1 : l.length ≤ 1000000) (hw1 : OWide l) (hn1 : A1 = none → c1 = 0) :
    Calls Tryd.prog 41 #[instV n A ls.length c, .int .i64 b, .slice A1 l.length c1] w (WithPostF n ls b l w) := by
  have hB : Below w.heap.size w ((w.alloc (.cells #[.int .i64 n, .slice A ls.length c] 35)).alloc (.cells #[.int .i64 0, .slice none 0 0] 35)) := ((Below.refl _ _).alloc (Nat.le_refl _) _).alloc (by simp) _
  have HI : Hid (∀ W, Below w.heap.size w W → Calls Tryd.prog 21 #[instV n A ls.length c] W (IntPost (instE n ls) W)) := hide (fun W hb => inst_any n A c hs ls W (h.up hb) hl hls hw)
  have HC : Hid (∀ W, Below w.heap.size w W → Calls Tryd.prog 24 #[.int .i64 n, .slice A1 l.length c1] W (CheckPost n l W)) := hide (fun W hb => check_any n A1 c1 l W (h1.up hb) hl1 hw1)
  have HCP : Hid (∀ W, Below w.heap.size w W → Calls Tryd.prog 60 #[instV n A ls.length c] W (CopyPostF n ls W)) := hide (fun W hb => copyF_any n A c hs ls W (h.up hb) hl hls hnil)
  have HCL : Hid (∀ W, Below w.heap.size w W → Calls Tryd.prog 44 #[.slice A1 l.length c1] W (ClonePost l W)) := hide (fun W hb => clone_any A1 c1 l W (h1.up hb) hl1 hn1)
  unfold CheckPost at HC
  have HBB := hide hB
  have HXX : Hid (∀ (W w1 : World), Below (w.heap.size + 2) W w1 → W.heap[w.heap.size]? = some (.cells #[.int .i64 n, .slice A ls.length c] 35 (0, 0)) → W.heap[w.heap.size + 1]? = some (.cells #[.int .i64 0, .slice none 0 0] 35 (0, 0)) →
      (w1.heap[w.heap.size]? = some (.cells #[.int .i64 n, .slice A ls.length c] 35 (0, 0)) ∧ w1.heap[w.heap.size + 1]? = some (.cells #[.int .i64 0, .slice none 0 0] 35 (0, 0)))) :=
    hide (fun W w1 hb h1 h2 => ⟨(hb.block _ (by omega)).trans h1, (hb.block _ (by omega)).trans h2⟩)
  have HST : Hid (((w.alloc (.cells #[.int .i64 n, .slice A ls.length c] 35)).alloc (.cells #[.int .i64 0, .slice none 0 0] 35)).heap[w.heap.size]? = some (.cells #[.int .i64 n, .slice A ls.length c] 35 (0, 0)) ∧
      ((w.alloc (.cells #[.int .i64 n, .slice A ls.length c] 35)).alloc (.cells #[.int .i64 0, .slice none 0 0] 35)).heap[w.heap.size + 1]? = some (.cells #[.int .i64 0, .slice none 0 0] 35 (0, 0))) := hide ⟨by
    rw [Below.heap_alloc _ _ _ (by simp)]; exact heap_alloc_new w _, by
    have := heap_alloc_new (w.alloc (.cells #[.int .i64 n, .slice A ls.length c] 35)) (.cells #[.int .i64 0, .slice none 0 0] 35)
    simpa using this⟩
  have HWE : Hid (withE n ls b l = if instE n ls ≠ 0 then instE n ls else if b < 0 ∨ (ls.length : Int) ≤ b then 2 else (checkO n l).2) := hide rfl
  have hcells : ∀ (W : World), (W.heap[w.heap.size]? = some (.cells #[.int .i64 n, .slice A ls.length c] 35 (0, 0)) ∧ W.heap[w.heap.size + 1]? = some (.cells #[.int .i64 0, .slice none 0 0] 35 (0, 0))) →
      W.cell? ⟨w.heap.size, 0, none⟩ = some (.int .i64 n) ∧ W.cell? ⟨w.heap.size, 1, none⟩ = some (.slice A ls.length c) ∧ W.cell? ⟨w.heap.size + 1, 0, none⟩ = some (.int .i64 0) ∧ W.cell? ⟨w.heap.size + 1, 1, none⟩ = some (.slice none 0 0) ∧ (∀ i, W.frozen? ⟨w.heap.size + 1, i, none⟩ = false) :=
    fun W ⟨h1, h2⟩ => ⟨cell_of_row W _ 0 _ _ (0, 0) h1, cell_of_row W _ 1 _ _ (0, 0) h1, cell_of_row W _ 0 _ _ (0, 0) h2, cell_of_row W _ 1 _ _ (0, 0) h2, fun i => by simp [World.frozen?, h2]⟩
  have HCE := hide hcells
  unfold WithPostF
  generalize withE n ls b l = we at *
  clear hB hcells h hw hls hnil h1
  simp only [instV] at *
  by_cases hi : instE n ls = 0
  · rw [hi] at HI
    rw [hi] at HWE
    by_cases hb0 : b < 0
    · have hwe : we = 2 := by rw [HWE.out, if_neg (by simp), if_pos (.inl hb0)]
      clear hi
      subst hwe
      go_enter Tryd.func41, Tryd.ntmps41
      go_wp2_with (go_at_call 21; refine (HI.out _ HBB.out).mono ?_; rintro e w1 ⟨rfl, hb1⟩; have HX1 := hide (HXX.out _ w1 (hb1.mono (by simp)) HST.out.1 HST.out.2); obtain ⟨x0, x1, y0, y1, y2⟩ := HCE.out w1 HX1.out; have HB1 : Hid (Below w.heap.size w w1) := hide (HBB.out.trans (hb1.mono (by simp; omega))); clear hb1)
      refine bodyPost_ret (v := .tuple #[.agg #[.int .i64 0, .slice none 0 0], .int .i64 2]) (by simp [results, Tryd.results41, go_sem, y0, y1]) rfl (.inl ⟨by simp, rfl, ?_⟩)
      repeat (refine Below.setCell ?_ (by show w.heap.size ≤ w.heap.size + 1; omega) _)
      exact HB1.out
    · by_cases hb1 : (ls.length : Int) ≤ b
      · have hwe : we = 2 := by rw [HWE.out, if_neg (by simp), if_pos (.inr hb1)]
        clear hi
        subst hwe
        go_enter Tryd.func41, Tryd.ntmps41
        go_wp2_with (go_at_call 21; refine (HI.out _ HBB.out).mono ?_; rintro e w1 ⟨rfl, hb1⟩; have HX1 := hide (HXX.out _ w1 (hb1.mono (by simp)) HST.out.1 HST.out.2); obtain ⟨x0, x1, y0, y1, y2⟩ := HCE.out w1 HX1.out; have HB1 : Hid (Below w.heap.size w w1) := hide (HBB.out.trans (hb1.mono (by simp; omega))); clear hb1)
        refine bodyPost_ret (v := .tuple #[.agg #[.int .i64 0, .slice none 0 0], .int .i64 2]) (by simp [results, Tryd.results41, go_sem, y0, y1]) rfl (.inl ⟨by simp, rfl, ?_⟩)
        repeat (refine Below.setCell ?_ (by show w.heap.size ≤ w.heap.size + 1; omega) _)
        exact HB1.out
      · have hwe : we = (checkO n l).2 := by rw [HWE.out, if_neg (by simp), if_neg (by omega)]
        rw [← hwe] at HC
        generalize (checkO n l).1 = z1 at HC
        clear hi hwe HWE
        obtain ⟨q, rfl⟩ : ∃ q : Nat, b = q := ⟨b.toNat, by omega⟩
        have hq : q < ls.length := by omega
        by_cases hwe : we = 0
        · subst hwe
          go_enter Tryd.func41, Tryd.ntmps41
          go_wp2_with (first | (go_at_call 21; refine (HI.out _ HBB.out).mono ?_; rintro e w1 ⟨rfl, hb1⟩; have HX1 := hide (HXX.out _ w1 (hb1.mono (by simp)) HST.out.1 HST.out.2); obtain ⟨x0, x1, y0, y1, y2⟩ := HCE.out w1 HX1.out; have HB1 : Hid (Below w.heap.size w w1) := hide (HBB.out.trans (hb1.mono (by simp; omega))); have HZ1 : Hid (w.heap.size + 2 ≤ w1.heap.size) := hide (by have := hb1.size; simpa using this); clear hb1) | (go_at_call 24; refine (HC.out _ HB1.out).mono ?_; rintro e w2 ⟨rfl, hb2⟩; have HX2 := hide (HXX.out _ w2 (hb2.mono HZ1.out) HX1.out.1 HX1.out.2); clear x0 x1 y0 y1 y2; obtain ⟨x0, x1, y0, y1, y2⟩ := HCE.out w2 HX2.out; have HB2 : Hid (Below w.heap.size w w2) := hide (HB1.out.trans (hb2.mono HB1.out.size)); have HZ2 : Hid (w.heap.size + 2 ≤ w2.heap.size) := hide (by have := hb2.size; have := HZ1.out; omega); clear hb2))
          refine (HCP.out _ HB2.out).mono ?_
          rintro e w3 ⟨A3, c3, hs3, rfl, hown3, hfar3, hb3⟩
          have HF3 := hide hfar3
          clear hfar3
          have HX3 := hide (HXX.out _ w3 (hb3.mono HZ2.out) HX2.out.1 HX2.out.2)
          clear x0 x1 y0 y1 y2
          obtain ⟨x0, x1, y0, y1, y2⟩ := HCE.out w3 HX3.out
          have HB3 : Hid (Below w.heap.size w w3) := hide (HB2.out.trans (hb3.mono HB2.out.size))
          have HZ3 : Hid (w.heap.size + 2 ≤ w3.heap.size) := hide (by have := hb3.size; have := HZ2.out; omega)
          have HO3 := hide hown3
          obtain ⟨g, cap, hv3⟩ := Go.Joins.ownsRow_form hown3.hdr (by omega)
          have hge := hown3.hdr.lt g (by rw [hv3]; rfl)
          injection hv3 with hA3 _ hc3
          subst hA3 hc3
          have HGE := hide hge
          clear hown3 hb3 hge
          simp only [instV]
          have HB4 : Hid (Below w.heap.size w (w3.alloc (.cells #[.int .i64 n, .slice (some ⟨g, 0, none⟩) ls.length c3] 35)).drew) := hide (HB3.out.alloc HB3.out.size _).drew
          have HC4 := hide (HCL.out _ HB4.out)
          have HG4 : Hid ((w3.alloc (.cells #[.int .i64 n, .slice (some ⟨g, 0, none⟩) ls.length c3] 35)).drew.heap.size = w3.heap.size + 1) := hide (by simp)
          have HW4 : Hid ((w3.alloc (.cells #[.int .i64 n, .slice (some ⟨g, 0, none⟩) ls.length c3] 35)).drew.heap[w3.heap.size]? = some (.cells #[.int .i64 n, .slice (some ⟨g, 0, none⟩) ls.length c3] 35 (0, 0))) := hide (heap_alloc_new w3 _)
          have HX4 : Hid ((w3.alloc (.cells #[.int .i64 n, .slice (some ⟨g, 0, none⟩) ls.length c3] 35)).drew.heap[w.heap.size]? = some (.cells #[.int .i64 n, .slice A ls.length c] 35 (0, 0)) ∧ (w3.alloc (.cells #[.int .i64 n, .slice (some ⟨g, 0, none⟩) ls.length c3] 35)).drew.heap[w.heap.size + 1]? = some (.cells #[.int .i64 0, .slice none 0 0] 35 (0, 0))) :=
            hide ⟨(Below.heap_alloc _ _ _ (by have := HZ3.out; omega)).trans HX3.out.1, (Below.heap_alloc _ _ _ (by have := HZ3.out; omega)).trans HX3.out.2⟩
          have HO4 : Hid (OwnB (w3.alloc (.cells #[.int .i64 n, .slice (some ⟨g, 0, none⟩) ls.length c3] 35)).drew w2.heap.size (some ⟨g, 0, none⟩) c3 hs3 ls) := hide (HO3.out.below ((Below.refl _ _).alloc (Nat.le_refl _) _).drew)
          have hql : (q : Int) < (ls.length : Int) := by omega
          go_wp2_with fail
          have HBD : Hid (∀ (W w5 : World), Below W.heap.size W w5 → W.heap.size = w3.heap.size + 1 → W.heap[w3.heap.size]? = some (.cells #[.int .i64 n, .slice (some ⟨g, 0, none⟩) ls.length c3] 35 (0, 0)) → w5.heap[w3.heap.size]? = some (.cells #[.int .i64 n, .slice (some ⟨g, 0, none⟩) ls.length c3] 35 (0, 0))) :=
            hide (fun W w5 hb hz h => (hb.block _ (by omega)).trans h)
          go_region_held3 (fun w' => w'.cell? ⟨w3.heap.size, 1, none⟩ = some (.slice (some ⟨g, 0, none⟩) ls.length c3)) (first | exact r1 | exact r2 _ | go_keep)
            (first | (go_at_call 44; refine (HC4.out).mono ?_; rintro e w5 ⟨A5, c5, rfl, hown5, hb5⟩; have HW5 := hide (HBD.out _ w5 hb5 HG4.out HW4.out); have r1 := cell_of_row w5 w3.heap.size 1 _ _ (0, 0) HW5.out; simp at r1; have r2 : ∀ u, (w5.setCell ⟨g, q, none⟩ u).cell? ⟨w3.heap.size, 1, none⟩ = some (.slice (some ⟨g, 0, none⟩) ls.length c3) := (fun u => (World.cell?_setCell_other _ _ _ _ (fun e => by have := HGE.out.2; injection e; omega)).trans r1); have HOW5 := hide hown5; have HO5 : Hid (OwnB w5 w2.heap.size (some ⟨g, 0, none⟩) c3 hs3 ls) := hide (HO4.out.below hb5); have hgc : ∃ u, w5.cell? ⟨g, q, none⟩ = some u := (by have := HO5.out.hdr.cellAt q (by omega); rw [this]; exact ⟨_, List.getElem?_eq_getElem (by simp [HO5.out.len]; omega)⟩); obtain ⟨u5, hu5⟩ := hgc; have hgf := HO5.out.hdr.frozenAt q; have HB5 : Hid (Below w.heap.size w w5) := hide (HB4.out.trans (hb5.mono HB4.out.size)); have HX5 := hide (HXX.out _ w5 (hb5.mono (by rw [HG4.out]; have := HZ3.out; omega)) HX4.out.1 HX4.out.2); have HG5 : Hid (w3.heap.size < w5.heap.size) := hide (by have := hb5.size; rw [HG4.out] at this; omega); clear hown5 hb5))
          have h6 := HO5.out.put hq (own_base HOW5.out (by rw [HG4.out]; have := HB2.out.size; have := HGE.out; omega)) (fun e => by
            subst e
            rcases HOW5.out.2 with ⟨h1, _⟩ | ⟨g', cap', cur', h1, _⟩
            · injection h1
            · injection h1 with h1; cases h1) rfl
          have hw6 : (w5.setCell ⟨g, q, none⟩ (.slice A5 l.length c5)).heap[w3.heap.size]? = some (.cells #[.int .i64 n, .slice (some ⟨g, 0, none⟩) ls.length c3] 35 (0, 0)) := (Below.heap_setCell w5 ⟨g, q, none⟩ _ _ (by have := HGE.out.2; simp; omega)).trans HW5.out
          have hx6 : (w5.setCell ⟨g, q, none⟩ (.slice A5 l.length c5)).heap[w.heap.size + 1]? = some (.cells #[.int .i64 0, .slice none 0 0] 35 (0, 0)) := (Below.heap_setCell w5 ⟨g, q, none⟩ _ _ (by have := HGE.out.1; have := HZ2.out; simp; omega)).trans HX5.out.2
          have HB6 : Hid (Below w.heap.size w (w5.setCell ⟨g, q, none⟩ (.slice A5 l.length c5))) := hide (HB5.out.setCell (by have := HGE.out.1; have := HZ2.out; simp; omega) _)
          have HH6 := hide h6
          clear h6 r1 r2 hu5 hgf y0 y1 y2 x0 x1
          go_simp
          generalize w5.setCell ⟨g, q, none⟩ (.slice A5 l.length c5) = w6 at *
          have z0 := cell_of_row w6 w3.heap.size 0 _ _ (0, 0) hw6
          have z1 := cell_of_row w6 w3.heap.size 1 _ _ (0, 0) hw6
          have y0 := cell_of_row w6 (w.heap.size + 1) 0 _ _ (0, 0) hx6
          have y1 := cell_of_row w6 (w.heap.size + 1) 1 _ _ (0, 0) hx6
          simp at z0 z1 y0 y1
          have y2 : ∀ i, w6.frozen? ⟨w.heap.size + 1, i, none⟩ = false := fun i => by simp [World.frozen?, hx6]
          have HZ6 : Hid (w.heap.size + 1 < w2.heap.size) := hide (by have := HZ2.out; omega)
          clear hw6 hx6
          go_wp2_with fail
          refine bodyPost_ret (v := .tuple #[.agg #[.int .i64 n, .slice (some ⟨g, 0, none⟩) ls.length c3], .int .i64 0]) (by simp [results, Tryd.results41, go_sem, y0, y1]) rfl (.inr ⟨by simp, some ⟨g, 0, none⟩, c3, hs3.set q (A5, c5), by simp, ?_, far_set HF3.out HO3.out HOW5.out (by rw [HG4.out]; omega) _, ?_⟩)
          · rw [Int.toNat_natCast]
            have key : ∀ (W : World) (b i : Nat) (u : Value), b < w2.heap.size → OwnB W w2.heap.size (some ⟨g, 0, none⟩) c3 (hs3.set q (A5, c5)) (ls.set q l) → OwnB (W.setCell ⟨b, i, none⟩ u) w2.heap.size (some ⟨g, 0, none⟩) c3 (hs3.set q (A5, c5)) (ls.set q l) := by
              intro W b i u hb ho
              have hf : ∀ {e size n : Nat} {v : Value} {xs : List Value}, W.ownsRow w2.heap.size e size v n xs → (W.setCell ⟨b, i, none⟩ u).ownsRow w2.heap.size e size v n xs := by
                intro e size n v xs h
                exact ownsRow_setCell_other h (fun e => by have := (h.lt _ e).1; simp at this; omega) _
              exact ⟨ho.len, hf ho.hdr, fun i a l ha hl => hf (ho.row i a l ha hl), ho.nil⟩
            exact (key _ _ _ _ HZ6.out (key _ _ _ _ HZ6.out HH6.out)).base_ (by have := HZ6.out; omega)
          · repeat (refine Below.setCell ?_ (by show w.heap.size ≤ w.heap.size + 1; omega) _)
            exact HB6.out
        · have hwe' : (we != 0) = true := by simpa using hwe
          go_enter Tryd.func41, Tryd.ntmps41
          go_wp2_with (first | (go_at_call 21; refine (HI.out _ HBB.out).mono ?_; rintro e w1 ⟨rfl, hb1⟩; have HX1 := hide (HXX.out _ w1 (hb1.mono (by simp)) HST.out.1 HST.out.2); obtain ⟨x0, x1, y0, y1, y2⟩ := HCE.out w1 HX1.out; have HB1 : Hid (Below w.heap.size w w1) := hide (HBB.out.trans (hb1.mono (by simp; omega))); have HZ1 : Hid (w.heap.size + 2 ≤ w1.heap.size) := hide (by have := hb1.size; simpa using this); clear hb1) | (go_at_call 24; refine (HC.out _ HB1.out).mono ?_; rintro e w2 ⟨rfl, hb2⟩; have HX2 := hide (HXX.out _ w2 (hb2.mono HZ1.out) HX1.out.1 HX1.out.2); clear x0 x1 y0 y1 y2; obtain ⟨x0, x1, y0, y1, y2⟩ := HCE.out w2 HX2.out; have HB2 : Hid (Below w.heap.size w w2) := hide (HB1.out.trans (hb2.mono HB1.out.size)); clear hb2))
          refine bodyPost_ret (v := .tuple #[.agg #[.int .i64 0, .slice none 0 0], .int .i64 we]) (by simp [results, Tryd.results41, go_sem, y0, y1]) rfl (.inl ⟨hwe, rfl, ?_⟩)
          repeat (refine Below.setCell ?_ (by show w.heap.size ≤ w.heap.size + 1; omega) _)
          exact HB2.out
  · have hwe : we = instE n ls := by rw [HWE.out, if_pos hi]
    have hi' : (instE n ls != 0) = true := by simpa using hi
    rw [← hwe] at HI hi hi'
    clear hwe HWE
    go_enter Tryd.func41, Tryd.ntmps41
    go_wp2_with (go_at_call 21; refine (HI.out _ HBB.out).mono ?_; rintro e w1 ⟨rfl, hb1⟩; have HX1 := hide (HXX.out _ w1 (hb1.mono (by simp)) HST.out.1 HST.out.2); obtain ⟨x0, x1, y0, y1, y2⟩ := HCE.out w1 HX1.out; have HB1 : Hid (Below w.heap.size w w1) := hide (HBB.out.trans (hb1.mono (by simp; omega))); clear hb1)
    refine bodyPost_ret (v := .tuple #[.agg #[.int .i64 0, .slice none 0 0], .int .i64 we]) (by simp [results, Tryd.results41, go_sem, y0, y1]) rfl (.inl ⟨hi, rfl, ?_⟩)
    repeat (refine Below.setCell ?_ (by show w.heap.size ≤ w.heap.size + 1; omega) _)
    exact HB1.out

set_option maxRecDepth 100000 in
set_option maxHeartbeats 2000000 in
theorem withoutF_any (n : Int) (A : Option Addr) (c : Nat) (hs : List Hdr) (ls : List (List Offer)) (b : Int) (w : World) (h : Buys w w.heap.size A hs ls) (hl : ls.length ≤ 1000000) (hls : BLens ls) (hw : BWide ls) (hnil : NilB hs) :
    Calls Tryd.prog 40 #[instV n A ls.length c, .int .i64 b] w (WithPostF n ls b [] w) := by
  have HB : Hid (Below w.heap.size w ((w.alloc (.cells #[.int .i64 n, .slice A ls.length c] 35)).alloc (.cells #[.int .i64 0, .slice none 0 0] 35))) := hide (((Below.refl _ _).alloc (Nat.le_refl _) _).alloc (by simp) _)
  have HX : Hid (((w.alloc (.cells #[.int .i64 n, .slice A ls.length c] 35)).alloc (.cells #[.int .i64 0, .slice none 0 0] 35)).heap[w.heap.size + 1]? = some (.cells #[.int .i64 0, .slice none 0 0] 35 (0, 0))) := hide (by
    have := heap_alloc_new (w.alloc (.cells #[.int .i64 n, .slice A ls.length c] 35)) (.cells #[.int .i64 0, .slice none 0 0] 35)
    simpa using this)
  have HW : Hid (∀ W, Below w.heap.size w W → Calls Tryd.prog 41 #[instV n A ls.length c, .int .i64 b, .slice none 0 0] W (WithPostF n ls b [] W)) :=
    hide (fun W hb => withF_any n A c hs ls b none 0 [] W (h.up hb) hl hls hw hnil (Two.none_ _ _) (by simp) (fun o ho => by cases ho) (fun _ => rfl))
  clear h hw hls hnil
  simp only [instV] at *
  go_enter Tryd.func40, Tryd.ntmps40
  go_wp2_with fail
  refine (HW.out _ HB.out).mono ?_
  rintro e w1 (⟨hne, rfl, hb1⟩ | ⟨h0, A', c', hs', rfl, hown, hfar, hb1⟩)
  · have hx1 := (hb1.block _ (by simp)).trans HX.out
    have y0 := cell_of_row w1 (w.heap.size + 1) 0 _ _ (0, 0) hx1
    have y1 := cell_of_row w1 (w.heap.size + 1) 1 _ _ (0, 0) hx1
    simp at y0 y1
    have y2 : ∀ i, w1.frozen? ⟨w.heap.size + 1, i, none⟩ = false := fun i => by simp [World.frozen?, hx1]
    have HB1 := hide (HB.out.trans (hb1.mono (by simp; omega)))
    have HNE := hide hne
    clear hb1 hx1 hne
    simp only [instV]
    go_wp2_with fail
    refine bodyPost_ret (v := .tuple #[.agg #[.int .i64 0, .slice none 0 0], .int .i64 (withE n ls b [])]) (by simp [results, Tryd.results40, go_sem, y0, y1]) rfl (.inl ⟨HNE.out, rfl, ?_⟩)
    repeat (refine Below.setCell ?_ (by show w.heap.size ≤ w.heap.size + 1; omega) _)
    exact HB1.out
  · have hx1 := (hb1.block _ (by simp)).trans HX.out
    have y0 := cell_of_row w1 (w.heap.size + 1) 0 _ _ (0, 0) hx1
    have y1 := cell_of_row w1 (w.heap.size + 1) 1 _ _ (0, 0) hx1
    simp at y0 y1
    have y2 : ∀ i, w1.frozen? ⟨w.heap.size + 1, i, none⟩ = false := fun i => by simp [World.frozen?, hx1]
    have HB1 := hide (HB.out.trans (hb1.mono (by simp; omega)))
    have HO := hide hown
    have HF := hide hfar
    have H0 := hide h0
    clear hb1 hx1 hown h0 hfar
    simp only [instV]
    go_wp2_with fail
    refine bodyPost_ret (v := .tuple #[.agg #[.int .i64 n, .slice A' (ls.set b.toNat []).length c'], .int .i64 0]) (by simp [results, Tryd.results40, go_sem, y0, y1]) rfl (.inr ⟨H0.out, A', c', hs', by simp, ?_, HF.out, ?_⟩)
    · have key : ∀ (W : World) (q i : Nat) (u : Value), q < w.heap.size + 2 → OwnB W (w.heap.size + 2) A' c' hs' (ls.set b.toNat []) → OwnB (W.setCell ⟨q, i, none⟩ u) (w.heap.size + 2) A' c' hs' (ls.set b.toNat []) := by
        intro W q i u hb ho
        have hf : ∀ {e size n : Nat} {v : Value} {xs : List Value}, W.ownsRow (w.heap.size + 2) e size v n xs → (W.setCell ⟨q, i, none⟩ u).ownsRow (w.heap.size + 2) e size v n xs := by
          intro e size n v xs h
          exact ownsRow_setCell_other h (fun e => by have := (h.lt _ e).1; simp at this; omega) _
        exact ⟨ho.len, hf ho.hdr, fun i a l ha hl => hf (ho.row i a l ha hl), ho.nil⟩
      have ho := HO.out
      simp only [World.size_alloc] at ho
      exact (key _ _ _ _ (by omega) (key _ _ _ _ (by omega) ho)).base_ (by omega)
    · repeat (refine Below.setCell ?_ (by show w.heap.size ≤ w.heap.size + 1; omega) _)
      exact HB1.out
end Go.Proofs.YtkiebjgpghajbaaDoor
