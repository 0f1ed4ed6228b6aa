/- The walk of gavellaw07.lent: an instance in memory of its own, with marks behind. (Printed by gen_lent7.py.) -/
import Derived.Test.YtffpiaipdeebcaaDoorGnW
namespace Go.Proofs.YtffpiaipdeebcaaDoor
open Go.RowKit Go.Maps Go.Shelf
open Go.ChangeMaps Go.WideMaps

/-- Buyers in memory of the call's own, a mark behind each one's offers. -/
structure OwnM (w : World) (base : Nat) (A : Option Addr) (c : Nat) (hs : List Hdr) (ls : List (List Offer)) : Prop where
  len : hs.length = ls.length
  hdr : w.ownsRow base 63 1 (.slice A ls.length c) ls.length (List.zipWith hdrV hs ls)
  row : ∀ (i : Nat) (h : Hdr) (l : List Offer), hs[i]? = some h → ls[i]? = some l → w.ownsRow base 74 2 (.slice h.1 (l.length + 1) h.2) (l.length + 1) (cells2 offV (l ++ [(0, 771)]))

/-- The same, with a mark behind the buyers. -/
structure OwnL (w : World) (base : Nat) (A : Option Addr) (c : Nat) (hs : List Hdr) (ls : List (List Offer)) : Prop where
  len : hs.length = ls.length
  hdr : ∃ mb, base ≤ mb ∧ w.ownsRow base 63 1 (.slice A (ls.length + 1) c) (ls.length + 1) (List.zipWith hdrV hs ls ++ [.slice (some ⟨mb, 0, none⟩) 1 1]) ∧ w.heap[mb]? = some (.cells #[.int .u32 0, .int .i64 772] 74 (0, 0))
  row : ∀ (i : Nat) (h : Hdr) (l : List Offer), hs[i]? = some h → ls[i]? = some l → w.ownsRow base 74 2 (.slice h.1 (l.length + 1) h.2) (l.length + 1) (cells2 offV (l ++ [(0, 771)]))

theorem take_len {α : Type} {ls : List α} {i : Nat} {l : α} (hi : ls[i]? = some l) : (ls.take i).length = i := by
  obtain ⟨h, _⟩ := List.getElem?_eq_some_iff.1 hi
  simp
  omega
theorem OwnM.push {wr Z w19 : World} {base : Nat} {A' A1 A19 : Option Addr} {c' c1 c19 : Nat} {hs' : List Hdr} {ls : List (List Offer)} {i : Nat} {l : List Offer} (ho : OwnM wr base A' c' hs' (ls.take i)) (hi : ls[i]? = some l) (hb : Below wr.heap.size wr Z)
    (hrow : Z.ownsRow base 74 2 (.slice A1 (l.length + 1) c1) (l.length + 1) (cells2 offV (l ++ [(0, 771)]))) (hg : Z.grownBy w19 (Value.slice A' i c').ownBlock)
    (hown : w19.ownsRow base 63 1 (.slice A19 (i + 1) c19) (i + 1) (List.zipWith hdrV hs' (ls.take i) ++ [.slice A1 l.length c1])) : OwnM w19 base A19 c19 (hs' ++ [(A1, c1)]) (ls.take (i + 1)) := by
  have hln := take_len hi
  have hlt : i < ls.length := (List.getElem?_eq_some_iff.1 hi).1
  have hlen : hs'.length = i := by rw [ho.len, hln]
  have hl1 : (ls.take (i + 1)).length = i + 1 := by simp; omega
  have hH : Z.ownsRow base 63 1 (.slice A' i c') i (List.zipWith hdrV hs' (ls.take i)) := by
    have := own_below ho.hdr hb (Nat.le_refl _)
    rw [hln] at this
    exact this
  have hne : ∀ {size n : Nat} {v : Value} {xs : List Value}, Z.ownsRow base 74 size v n xs → w19.ownsRow base 74 size v n xs := by
    intro size n v xs ho
    refine own_far ho hg ?_
    rcases hH.2 with ⟨h1, _⟩ | ⟨g, cap, cur, h1, _, hh, _⟩
    · rw [h1]
      rcases ho.2 with ⟨rfl, _⟩ | ⟨g', cap', cur', rfl, _⟩
      · exact .inr rfl
      · exact .inl (by simp [Value.ownBlock])
    · left
      rw [h1]
      exact own_ne ho hh (by simp)
  refine ⟨by simp [hlen, hl1] <;> omega, ?_, ?_⟩
  · rw [hl1, List.take_add_one, hi, Option.toList_some, List.zipWith_append (by rw [ho.len])]
    exact hown
  · intro j hd l' hj hl'
    rw [List.take_add_one, hi] at hl'
    rcases Nat.lt_or_ge j i with h1 | h1
    · rw [List.getElem?_append_left (by omega)] at hj
      rw [List.getElem?_append_left (by omega)] at hl'
      exact hne (own_below (ho.row j hd l' hj hl') hb (Nat.le_refl _))
    · rw [List.getElem?_append_right (by omega)] at hj
      rw [List.getElem?_append_right (by omega)] at hl'
      have hj0 : j - hs'.length = 0 := by
        rcases Nat.eq_zero_or_pos (j - hs'.length) with h2 | h2
        · exact h2
        · rw [List.getElem?_eq_none (by simp; omega)] at hj; cases hj
      rw [hj0] at hj
      have hl0 : j - (ls.take i).length = 0 := by omega
      rw [hl0] at hl'
      simp at hj hl'
      subst hj hl'
      exact hne hrow
theorem OwnM.set {w : World} {base : Nat} {A : Option Addr} {c : Nat} {hs : List Hdr} {ls : List (List Offer)} (h : OwnM w base A c hs ls) {p : Addr} (hp : p.block < base) (v : Value) : OwnM (w.setCell p v) base A c hs ls := by
  have hf : ∀ {e size n : Nat} {u : Value} {xs : List Value}, w.ownsRow base e size u n xs → (w.setCell p v).ownsRow base e size u n xs := fun h => ownsRow_setCell_other h (fun e => by have := (h.lt _ e).1; omega) _
  exact ⟨h.len, hf h.hdr, fun i a l ha hl => hf (h.row i a l ha hl)⟩

theorem OwnL.set {w : World} {base : Nat} {A : Option Addr} {c : Nat} {hs : List Hdr} {ls : List (List Offer)} (h : OwnL w base A c hs ls) {b i : Nat} (hp : b < base) (v : Value) : OwnL (w.setCell ⟨b, i, none⟩ v) base A c hs ls := by
  have hf : ∀ {e size n : Nat} {u : Value} {xs : List Value}, w.ownsRow base e size u n xs → (w.setCell ⟨b, i, none⟩ v).ownsRow base e size u n xs := fun h => ownsRow_setCell_other h (fun e => by have := (h.lt _ e).1; simp only at this; omega) _
  obtain ⟨mb, h1, h2, h3⟩ := h.hdr
  exact ⟨h.len, ⟨mb, h1, hf h2, (Below.heap_setCell _ _ _ _ (by simp only; omega)).trans h3⟩, fun i a l ha hl => hf (h.row i a l ha hl)⟩
theorem OwnM.mark {wr Z w5 : World} {base mb : Nat} {A' A5 : Option Addr} {c' c5 : Nat} {hs' : List Hdr} {ls : List (List Offer)} (ho : OwnM wr base A' c' hs' ls) (hb : Below wr.heap.size wr Z) (hm : Z.heap[mb]? = some (.cells #[.int .u32 0, .int .i64 772] 74 (0, 0))) (hmb : base ≤ mb) (hg : Z.grownBy w5 (Value.slice A' ls.length c').ownBlock)
    (hown : w5.ownsRow base 63 1 (.slice A5 (ls.length + 1) c5) (ls.length + 1) (List.zipWith hdrV hs' ls ++ [.slice (some ⟨mb, 0, none⟩) 1 1])) : OwnL w5 base A5 c5 hs' ls := by
  have hH := own_below ho.hdr hb (Nat.le_refl _)
  have hne : ∀ {size n : Nat} {v : Value} {xs : List Value}, Z.ownsRow base 74 size v n xs → w5.ownsRow base 74 size v n xs := by
    intro size n v xs ho
    refine own_far ho hg ?_
    rcases hH.2 with ⟨h1, _⟩ | ⟨g, cap, cur, h1, _, hh, _⟩
    · rw [h1]
      rcases ho.2 with ⟨rfl, _⟩ | ⟨g', cap', cur', rfl, _⟩
      · exact .inr rfl
      · exact .inl (by simp [Value.ownBlock])
    · left
      rw [h1]
      exact own_ne ho hh (by simp)
  refine ⟨ho.len, ⟨mb, hmb, hown, (hg.block mb (lt_of_block hm) (Ne.symm (own_ne hH hm (by simp)))).trans hm⟩, fun i a l ha hl => hne (own_below (ho.row i a l ha hl) hb (Nat.le_refl _))⟩

def LentPost (n : Int) (ls : List (List Offer)) (w : World) (e : Ending) (w' : World) : Prop :=
  ∃ A c hs, e = .returned (instV n A ls.length c) ∧ OwnL w' w.heap.size A c hs ls ∧ Below w.heap.size w w'

set_option maxRecDepth 100000 in
set_option maxHeartbeats 8000000 in
theorem lent_any (n : Int) (A : Option Addr) (c : Nat) (hs : List Hdr) (ls : List (List Offer)) (w : World) (h : Buys w w.heap.size A hs ls) (hl : ls.length ≤ 1000) (hls : ∀ l ∈ ls, l.length ≤ 1000) :
    Calls Tryd.prog 33 #[instV n A ls.length c] w (LentPost n ls w) := by
  have HA := hide h
  have HL := hide hls
  clear h hls
  simp only [instV]
  have HB1 : Hid (Below w.heap.size w ((w.alloc (.cells #[.int .i64 n, .slice A ls.length c] 49)).alloc (.cells #[.int .i64 0, .slice none 0 0] 49))) := hide (((Below.refl _ _).alloc (Nat.le_refl _) _).alloc (by simp) _)
  have HX1 : Hid (((w.alloc (.cells #[.int .i64 n, .slice A ls.length c] 49)).alloc (.cells #[.int .i64 0, .slice none 0 0] 49)).heap[w.heap.size]? = some (.cells #[.int .i64 n, .slice A ls.length c] 49 (0, 0)) ∧ ((w.alloc (.cells #[.int .i64 n, .slice A ls.length c] 49)).alloc (.cells #[.int .i64 0, .slice none 0 0] 49)).heap[w.heap.size + 1]? = some (.cells #[.int .i64 0, .slice none 0 0] 49 (0, 0))) := hide ⟨(Below.heap_alloc _ _ _ (by simp)).trans (heap_alloc_new w _), by
    have := heap_alloc_new (w.alloc (.cells #[.int .i64 n, .slice A ls.length c] 49)) (.cells #[.int .i64 0, .slice none 0 0] 49)
    rw [World.size_alloc] at this
    exact this⟩
  go_enter Tryd.func33, Tryd.ntmps33
  go_upto_region 2 with fail
  generalize (w.alloc (.cells #[.int .i64 n, .slice A ls.length c] 49)).alloc (.cells #[.int .i64 0, .slice none 0 0] 49) = w1 at *
  have HZ1 : Hid (w.heap.size + 2 ≤ w1.heap.size) := hide (by have := lt_of_block HX1.out.2; omega)
  go_wp2_with fail
  go_loopw [3, 4] (fun ov iv wr => ∃ (i : Nat) (A' : Option Addr) (c' : Nat) (hs' : List Hdr), i ≤ ls.length ∧ iv = .int .i64 i ∧ ov = .slice A' i c' ∧ OwnM wr (w.heap.size + 2) A' c' hs' (ls.take i) ∧ Below (w.heap.size + 2) w1 wr) (fun _ iv _ => ls.length - (intOf iv).toNat)
  case atStart => exact ⟨0, none, 0, [], Nat.zero_le _, rfl, rfl, ⟨rfl, World.ownsRow_nil _ _ _ _, fun i h l hh => by simp at hh⟩, Below.refl _ _⟩
  case round =>
    obtain ⟨i, A', c', hs', hi, rfl, rfl, ho, hb⟩ := hrel
    have HO := hide ho
    have HBR := hide hb
    have HZR : Hid (w.heap.size + 2 ≤ wr.heap.size) := hide (by have := hb.size; have := HZ1.out; omega)
    have HBW : Hid (Below w.heap.size w wr) := hide (HB1.out.trans (hb.mono (by omega)))
    have HLN : Hid (i ≤ ls.length → (ls.take i).length = i) := hide (fun h => by simp; omega)
    have HX : Hid (∀ W, Below (w.heap.size + 2) wr W → W.cell? ⟨w.heap.size, 1, none⟩ = some (.slice A ls.length c)) := hide (fun W hW => cell_of_row W w.heap.size 1 _ _ (0, 0) ((hW.block _ (by omega)).trans ((HBR.out.block _ (by omega)).trans HX1.out.1)))
    have x1 := HX.out wr (Below.refl _ _)
    clear ho hb
    by_cases hlt : i < ls.length
    · obtain ⟨⟨a1, a2⟩, l, ha, hlx, hro, hca⟩ := HA.out.get hlt
      obtain ⟨bb, bo, rfl, hbB, hat⟩ := HA.out.at_ (by omega)
      have HH : Hid (∀ W, Below w.heap.size w W → W.cell? ⟨bb, bo + i, none⟩ = some (.slice a1 l.length a2)) := hide (fun W hW => (hW.cell (p := ⟨bb, bo + i, none⟩) hbB).trans (hat i _ l ha hlx))
      have HR : Hid (∀ W, Below w.heap.size w W → Offs W w.heap.size a1 l) := hide (fun W hW => hro.below hW)
      have HS2 : Hid (∀ W, Below (w.heap.size + 2) wr W → W.cell? ⟨w.heap.size, 1, none⟩ = some (.slice (some ⟨bb, bo, none⟩) ls.length c) ∧ W.cell? ⟨bb, bo + i, none⟩ = some (.slice a1 l.length a2)) := hide (fun W hW => ⟨HX.out W hW, HH.out W (HBW.out.trans (hW.mono (by omega)))⟩)
      have HS : Hid (∀ W, Below wr.heap.size wr W → W.cell? ⟨w.heap.size, 1, none⟩ = some (.slice (some ⟨bb, bo, none⟩) ls.length c) ∧ W.cell? ⟨bb, bo + i, none⟩ = some (.slice a1 l.length a2)) := hide (fun W hW => HS2.out W (hW.mono HZR.out))
      have hl20 : l.length ≤ 1000 := HL.out l (List.mem_of_getElem? hlx)
      have HLX := hide hlx
      have z1 := HH.out wr HBW.out
      have hki : (i : Int) < (ls.length : Int) := by omega
      have HBD : Hid (Below wr.heap.size wr wr.drew) := hide (Below.refl _ _).drew
      have HBA : Hid (Below wr.heap.size wr (wr.alloc (.cells #[.int .u32 0, .int .i64 771] 74)).drew) := hide (((Below.refl _ _).alloc (Nat.le_refl _) _).drew)
      have G1 := hide (off_one l)
      have G2 : Hid (0 + l.length ≤ maxLen) := hide (by unfold maxLen; omega)
      have G3 : Hid ((0 + l.length) * 16 ≤ 140737488355328) := hide (by omega)
      have G4 := hide (off_one [(0, 771)])
      have G5 : Hid (l.length + 1 ≤ maxLen) := hide (by unfold maxLen; omega)
      have G6 : Hid ((l.length + 1) * 16 ≤ 140737488355328) := hide (by omega)
      have HDR : Hid (∀ W, Below wr.heap.size wr W → W.ownsRow (w.heap.size + 2) 63 1 (.slice A' i c') i (List.zipWith hdrV hs' (ls.take i))) := hide (fun W hW => by
        have := own_below HO.out.hdr hW (Nat.le_refl _)
        rw [HLN.out (by omega)] at this
        exact this)
      have G7 : Hid (∀ (A2 : Option Addr) (n2 c2 : Nat), ∀ u ∈ [Value.slice A2 n2 c2], u.oneCell' = true) := hide (fun A2 n2 c2 u hu => by simp at hu; subst hu; rfl)
      have G8 : Hid (i + 1 ≤ maxLen) := hide (by unfold maxLen; omega)
      have G9 : Hid ((i + 1) * 24 ≤ 140737488355328) := hide (by omega)
      have h0l : (0 : Int) ≤ (l.length : Int) := by omega
      clear hat ha hlx hro hca z1
      go_upto_region 5 with fail
      clear x1
      refine wp_region_U 19 (fun X => X.cell? ⟨w.heap.size, 1, none⟩ = some (.slice (some ⟨bb, bo, none⟩) ls.length c) ∧ X.cell? ⟨bb, bo + i, none⟩ = some (.slice a1 l.length a2)) rfl (HS.out _ ((Below.refl _ _).drew)) (fun hHeld => ?_)
      refine AnyU.take (i := 0) (v := ?v1) rfl (by kernel_rfl) (by kernel_rfl) (by kernel_rfl) (by kernel_rfl) (fun _ _ _ h => h) (Or.inl ⟨by rfl, ?hy1⟩) hHeld ?r1
      case hy1 => (intro w hSw; (try dsimp only at hSw); go_simp <;> with_reducible rfl)
      simp only [Act.put, List.setIfInBounds_toArray, List.set_cons_zero, List.set_cons_succ]
      refine AnyU.take (i := 1) (v := ?v2) rfl (by kernel_rfl) (by kernel_rfl) (by kernel_rfl) (by kernel_rfl) (fun _ _ _ h => h) (Or.inl ⟨by rfl, ?hy2⟩) hHeld ?r2
      case hy2 => (intro w hSw; (try dsimp only at hSw); go_simp <;> with_reducible rfl)
      simp only [Act.put, List.setIfInBounds_toArray, List.set_cons_zero, List.set_cons_succ]
      refine AnyU.take (i := 2) (v := ?v3) rfl (by kernel_rfl) (by kernel_rfl) (by kernel_rfl) (by kernel_rfl) (fun _ _ _ h => h) (Or.inl ⟨by rfl, ?hy3⟩) hHeld ?r3
      case hy3 => (intro w hSw; (try dsimp only at hSw); go_simp <;> with_reducible rfl)
      simp only [Act.put, List.setIfInBounds_toArray, List.set_cons_zero, List.set_cons_succ]
      refine AnyU.take (i := 3) (v := ?v4) rfl (by kernel_rfl) (by kernel_rfl) (by kernel_rfl) (by kernel_rfl) (fun _ _ _ h => h) (Or.inl ⟨by rfl, ?hy4⟩) hHeld ?r4
      case hy4 => (intro w hSw; (try dsimp only at hSw); go_simp <;> with_reducible rfl)
      simp only [Act.put, List.setIfInBounds_toArray, List.set_cons_zero, List.set_cons_succ]
      refine AnyU.take (i := 4) (v := ?v5) rfl (by kernel_rfl) (by kernel_rfl) (by kernel_rfl) (by kernel_rfl) (fun _ _ _ h => h) (Or.inl ⟨by rfl, ?hy5⟩) hHeld ?r5
      case hy5 => (intro w hSw; (try dsimp only at hSw); go_simp <;> with_reducible rfl)
      simp only [Act.put, List.setIfInBounds_toArray, List.set_cons_zero, List.set_cons_succ]
      refine AnyU.take (i := 5) (v := ?v6) rfl (by kernel_rfl) (by kernel_rfl) (by kernel_rfl) (by kernel_rfl) (fun _ _ _ h => h) (Or.inl ⟨by rfl, ?hy6⟩) hHeld ?r6
      case hy6 => (intro w hSw; (try dsimp only at hSw); go_simp <;> with_reducible rfl)
      simp only [Act.put, List.setIfInBounds_toArray, List.set_cons_zero, List.set_cons_succ]
      refine AnyU.take (i := 7) (v := ?v7) rfl (by kernel_rfl) (by kernel_rfl) (by kernel_rfl) (by kernel_rfl) (fun _ _ _ h => h) (Or.inl ⟨by rfl, ?hy7⟩) hHeld ?r7
      case hy7 => (intro w hSw; (try dsimp only at hSw); go_simp <;> with_reducible rfl)
      simp only [Act.put, List.setIfInBounds_toArray, List.set_cons_zero, List.set_cons_succ]
      refine AnyU.take (i := 10) (v := ?v8) rfl (by kernel_rfl) (by kernel_rfl) (by kernel_rfl) (by kernel_rfl) (fun _ _ _ h => h) (Or.inl ⟨by rfl, ?hy8⟩) hHeld ?r8
      case hy8 => (intro w hSw; (try dsimp only at hSw); go_simp <;> with_reducible rfl)
      simp only [Act.put, List.setIfInBounds_toArray, List.set_cons_zero, List.set_cons_succ]
      refine AnyU.take (i := 11) (v := ?v9) rfl (by kernel_rfl) (by kernel_rfl) (by kernel_rfl) (by kernel_rfl) (fun _ _ _ h => h) (Or.inl ⟨by rfl, ?hy9⟩) hHeld ?r9
      case hy9 => (intro w hSw; (try dsimp only at hSw); go_simp <;> with_reducible rfl)
      simp only [Act.put, List.setIfInBounds_toArray, List.set_cons_zero, List.set_cons_succ]
      refine AnyU.take (i := 12) (v := ?v10) rfl (by kernel_rfl) (by kernel_rfl) (by kernel_rfl) (by kernel_rfl) (fun _ _ _ h => h) (Or.inl ⟨by rfl, ?hy10⟩) hHeld ?r10
      case hy10 => (intro w hSw; (try dsimp only at hSw); go_simp <;> with_reducible rfl)
      simp only [Act.put, List.setIfInBounds_toArray, List.set_cons_zero, List.set_cons_succ]
      refine AnyU.take (i := 13) (v := ?v11) rfl (by kernel_rfl) (by kernel_rfl) (by kernel_rfl) (by kernel_rfl) (fun _ _ _ h => h) (Or.inl ⟨by rfl, ?hy11⟩) hHeld ?r11
      case hy11 => (intro w hSw; (try dsimp only at hSw); go_simp <;> with_reducible rfl)
      simp only [Act.put, List.setIfInBounds_toArray, List.set_cons_zero, List.set_cons_succ]
      refine AnyU.take (i := 14) (v := ?v12) rfl (by kernel_rfl) (by kernel_rfl) (by kernel_rfl) (by kernel_rfl) (fun _ _ _ h => h) (Or.inl ⟨by rfl, ?hy12⟩) hHeld ?r12
      case hy12 => (intro w hSw; (try dsimp only at hSw); go_simp <;> with_reducible rfl)
      simp only [Act.put, List.setIfInBounds_toArray, List.set_cons_zero, List.set_cons_succ]
      refine AnyU.take (i := 15) (v := ?v13) rfl (by kernel_rfl) (by kernel_rfl) (by kernel_rfl) (by kernel_rfl) (fun _ _ _ h => h) (Or.inl ⟨by rfl, ?hy13⟩) hHeld ?r13
      case hy13 => (intro w hSw; (try dsimp only at hSw); go_simp <;> with_reducible rfl)
      simp only [Act.put, List.setIfInBounds_toArray, List.set_cons_zero, List.set_cons_succ]
      refine AnyU.next (js := [6, 8]) (by kernel_rfl) (by simp) (NextU.cons rfl (fun K hK => ?_) (NextU.cons rfl (fun K hK => ?_) NextU.nil))
      · refine step_append_any rfl (.const (.slice none 0 0)) (.tmp 17) 63 rfl wr.heap.size 74 (.agg #[.int .u32 0, .int .i64 0]) 2 16 infoO Tryd.underlying63 rfl (by decide) _ 0 [] rfl (World.ownsRow_nil _ _ _ _) w.heap.size a1 l.length a2 (cells2 offV l) rfl (HR.out _ (HBW.out.trans (HBD.out.mono HBW.out.size))) G1.out G2.out G3.out HBD.out.size ?_
        intro v7 w7 hown7 hg7 _
        rw [Nat.zero_add, List.nil_append] at hown7
        obtain ⟨A7, c7, hv7, _⟩ := own_sh hown7
        subst hv7
        have HO7 := hide hown7
        have HB7 : Hid (Below wr.heap.size wr w7) := hide (HBD.out.grown hg7 HBD.out.size (fun j hj => by cases hj))
        clear hown7 hg7
        refine hK.out _ _ (fun _ => (HS.out _ HB7.out)) (fun hHeld => ?_)
        replace hHeld := hHeld (by decide)
        try simp only [Act.put, List.setIfInBounds_toArray, List.set_cons_zero, List.set_cons_succ]
        refine AnyU.next (js := [8]) (by kernel_rfl) (by simp) (NextU.cons rfl (fun K hK => ?_) NextU.nil)
        go_simp
        refine hK.out _ _ (fun _ => (HS.out _ (HB7.out.alloc HB7.out.size _))) (fun hHeld => ?_)
        replace hHeld := hHeld (by decide)
        try simp only [Act.put, List.setIfInBounds_toArray, List.set_cons_zero, List.set_cons_succ]
        refine AnyU.next (js := [9]) (by kernel_rfl) (by simp) (NextU.cons rfl (fun K hK => ?_) NextU.nil)
        refine step_append_any rfl (.tmp 18) (.tmp 20) 63 rfl wr.heap.size 74 (.agg #[.int .u32 0, .int .i64 0]) 2 16 infoO Tryd.underlying63 rfl (by decide) _ l.length (cells2 offV l) rfl (own_below HO7.out ((Below.refl _ _).alloc (Nat.le_refl _) _) (Nat.le_refl _)) _ (some ⟨w7.heap.size, 0, none⟩) 1 1 (cells2 offV [(0, 771)]) rfl (reads_row7 (xs := [.int .u32 0, .int .i64 771]) (heap_alloc_new w7 _) rfl) G4.out G5.out G6.out (HB7.out.alloc HB7.out.size _).size ?_
        intro v10 w10 hown10 hg10 _
        obtain ⟨g10, c10, hv10, _, _⟩ := hown10.form (by omega)
        subst hv10
        have HB10 : Hid (Below wr.heap.size wr w10) := hide ((HB7.out.alloc HB7.out.size _).grown hg10 (HB7.out.alloc HB7.out.size _).size (fun j hj => (HO7.out.lt j hj).1))
        have hcap10 : (l.length : Int) ≤ (c10 : Int) := (by obtain ⟨_, _, e, hc⟩ := own_sh hown10; injection e with _ _ e; omega)
        have HO10 : Hid (w10.ownsRow wr.heap.size 74 2 (.slice (some ⟨g10, 0, none⟩) (l.length + 1) c10) (l.length + 1) (cells2 offV (l ++ [(0, 771)]))) := hide (by rw [show cells2 offV (l ++ [(0, 771)]) = cells2 offV l ++ cells2 offV [(0, 771)] from List.flatMap_append]; exact hown10)
        clear hown10 hg10
        refine hK.out _ _ (fun _ => (HS.out _ HB10.out)) (fun hHeld => ?_)
        replace hHeld := hHeld (by decide)
        try simp only [Act.put, List.setIfInBounds_toArray, List.set_cons_zero, List.set_cons_succ]
        refine AnyU.take (i := 16) (v := ?v14) rfl (by kernel_rfl) (by kernel_rfl) (by kernel_rfl) (by kernel_rfl) (fun _ _ _ h => h) (Or.inl ⟨by rfl, ?hy14⟩) hHeld ?r14
        case hy14 => (intro w hSw; (try dsimp only at hSw); go_simp <;> with_reducible rfl)
        simp only [Act.put, List.setIfInBounds_toArray, List.set_cons_zero, List.set_cons_succ]
        have HBZ : Hid (Below wr.heap.size wr (w10.alloc (.cells #[.slice (some ⟨g10, 0, none⟩) l.length c10] 63))) := hide (HB10.out.alloc HB10.out.size _)
        refine AnyU.next (js := [17]) (by kernel_rfl) (by simp) (NextU.cons rfl (fun K hK => ?_) NextU.nil)
        go_simp
        refine hK.out _ _ (fun _ => (HS.out _ HBZ.out)) (fun hHeld => ?_)
        replace hHeld := hHeld (by decide)
        try simp only [Act.put, List.setIfInBounds_toArray, List.set_cons_zero, List.set_cons_succ]
        refine AnyU.next (js := [18]) (by kernel_rfl) (by simp) (NextU.cons rfl (fun K hK => ?_) NextU.nil)
        refine step_append_any rfl (.tmp 12) (.tmp 29) 47 rfl (w.heap.size + 2) 63 (.slice none 0 0) 1 24 infoOs Tryd.underlying47 rfl (by decide) _ i (List.zipWith hdrV hs' (ls.take i)) rfl (HDR.out _ HBZ.out) _ (some ⟨w10.heap.size, 0, none⟩) 1 1 [.slice (some ⟨g10, 0, none⟩) l.length c10] rfl (reads_row7 (xs := [.slice (some ⟨g10, 0, none⟩) l.length c10]) (heap_alloc_new w10 _) rfl) (G7.out _ _ _) G8.out G9.out (by have := HBZ.out.size; have := HZR.out; omega) ?_
        intro v19 w19 hown19 hg19 _
        obtain ⟨A19, c19, hv19, _⟩ := own_sh hown19
        subst hv19
        have HO19 := hide hown19
        have HG19 := hide hg19
        have HB19 : Hid (Below (w.heap.size + 2) wr w19) := hide ((HBZ.out.mono HZR.out).grown hg19 (by have := HBZ.out.size; have := HZR.out; omega) (fun j hj => ((HDR.out wr (Below.refl _ _)).lt j hj).1))
        clear hown19 hg19
        refine hK.out _ _ (fun _ => (HS2.out _ HB19.out)) (fun hHeld => ?_)
        replace hHeld := hHeld (by decide)
        try simp only [Act.put, List.setIfInBounds_toArray, List.set_cons_zero, List.set_cons_succ]
        refine AnyU.next (js := [19]) (by kernel_rfl) (by simp) (NextU.cons rfl (fun K hK => ?_) NextU.nil)
        go_simp
        refine hK.out _ _ (fun h => absurd h (by decide)) (fun _ => ?_)
        try simp only [Act.put, List.setIfInBounds_toArray, List.set_cons_zero, List.set_cons_succ]
        refine AnyU.over (by kernel_rfl) ?_ _
        go_wp2_with fail
        go_roundw
        case rel => exact ⟨i + 1, A19, c19, hs' ++ [(some ⟨g10, 0, none⟩, c10)], by omega, by go_num, rfl, HO.out.push HLX.out (HB10.out.alloc HB10.out.size _) (own_base (own_below HO10.out ((Below.refl _ _).alloc (Nat.le_refl _) _) (Nat.le_refl _)) HZR.out) HG19.out HO19.out, HBR.out.trans HB19.out⟩
        case measure => simp [intOf]; omega
      · have HMA : Hid ((wr.alloc (.cells #[.int .u32 0, .int .i64 771] 74)).drew.heap[wr.heap.size]? = some (.cells #[.int .u32 0, .int .i64 771] 74 (0, 0))) := hide (heap_alloc_new wr _)
        go_simp
        refine hK.out _ _ (fun _ => (HS.out _ HBA.out)) (fun hHeld => ?_)
        replace hHeld := hHeld (by decide)
        try simp only [Act.put, List.setIfInBounds_toArray, List.set_cons_zero, List.set_cons_succ]
        generalize (wr.alloc (.cells #[.int .u32 0, .int .i64 771] 74)).drew = wm at *
        refine AnyU.next (js := [6]) (by kernel_rfl) (by simp) (NextU.cons rfl (fun K hK => ?_) NextU.nil)
        refine step_append_any rfl (.const (.slice none 0 0)) (.tmp 17) 63 rfl wr.heap.size 74 (.agg #[.int .u32 0, .int .i64 0]) 2 16 infoO Tryd.underlying63 rfl (by decide) _ 0 [] rfl (World.ownsRow_nil _ _ _ _) w.heap.size a1 l.length a2 (cells2 offV l) rfl (HR.out _ (HBW.out.trans (HBA.out.mono HBW.out.size))) G1.out G2.out G3.out HBA.out.size ?_
        intro v7 w7 hown7 hg7 _
        rw [Nat.zero_add, List.nil_append] at hown7
        obtain ⟨A7, c7, hv7, _⟩ := own_sh hown7
        subst hv7
        have HO7 := hide hown7
        have HB7 : Hid (Below wr.heap.size wr w7) := hide (HBA.out.grown hg7 HBA.out.size (fun j hj => by cases hj))
        have HMB := hide ((hg7.block _ (lt_of_block HMA.out) (fun e => by cases e)).trans HMA.out)
        clear hown7 hg7
        refine hK.out _ _ (fun _ => (HS.out _ HB7.out)) (fun hHeld => ?_)
        replace hHeld := hHeld (by decide)
        try simp only [Act.put, List.setIfInBounds_toArray, List.set_cons_zero, List.set_cons_succ]
        refine AnyU.next (js := [9]) (by kernel_rfl) (by simp) (NextU.cons rfl (fun K hK => ?_) NextU.nil)
        refine step_append_any rfl (.tmp 18) (.tmp 20) 63 rfl wr.heap.size 74 (.agg #[.int .u32 0, .int .i64 0]) 2 16 infoO Tryd.underlying63 rfl (by decide) _ l.length (cells2 offV l) rfl (HO7.out) _ (some ⟨wr.heap.size, 0, none⟩) 1 1 (cells2 offV [(0, 771)]) rfl (reads_row7 (xs := [.int .u32 0, .int .i64 771]) HMB.out rfl) G4.out G5.out G6.out HB7.out.size ?_
        intro v10 w10 hown10 hg10 _
        obtain ⟨g10, c10, hv10, _, _⟩ := hown10.form (by omega)
        subst hv10
        have HB10 : Hid (Below wr.heap.size wr w10) := hide (HB7.out.grown hg10 HB7.out.size (fun j hj => (HO7.out.lt j hj).1))
        have hcap10 : (l.length : Int) ≤ (c10 : Int) := (by obtain ⟨_, _, e, hc⟩ := own_sh hown10; injection e with _ _ e; omega)
        have HO10 : Hid (w10.ownsRow wr.heap.size 74 2 (.slice (some ⟨g10, 0, none⟩) (l.length + 1) c10) (l.length + 1) (cells2 offV (l ++ [(0, 771)]))) := hide (by rw [show cells2 offV (l ++ [(0, 771)]) = cells2 offV l ++ cells2 offV [(0, 771)] from List.flatMap_append]; exact hown10)
        clear hown10 hg10
        refine hK.out _ _ (fun _ => (HS.out _ HB10.out)) (fun hHeld => ?_)
        replace hHeld := hHeld (by decide)
        try simp only [Act.put, List.setIfInBounds_toArray, List.set_cons_zero, List.set_cons_succ]
        refine AnyU.take (i := 16) (v := ?v15) rfl (by kernel_rfl) (by kernel_rfl) (by kernel_rfl) (by kernel_rfl) (fun _ _ _ h => h) (Or.inl ⟨by rfl, ?hy15⟩) hHeld ?r15
        case hy15 => (intro w hSw; (try dsimp only at hSw); go_simp <;> with_reducible rfl)
        simp only [Act.put, List.setIfInBounds_toArray, List.set_cons_zero, List.set_cons_succ]
        have HBZ : Hid (Below wr.heap.size wr (w10.alloc (.cells #[.slice (some ⟨g10, 0, none⟩) l.length c10] 63))) := hide (HB10.out.alloc HB10.out.size _)
        refine AnyU.next (js := [17]) (by kernel_rfl) (by simp) (NextU.cons rfl (fun K hK => ?_) NextU.nil)
        go_simp
        refine hK.out _ _ (fun _ => (HS.out _ HBZ.out)) (fun hHeld => ?_)
        replace hHeld := hHeld (by decide)
        try simp only [Act.put, List.setIfInBounds_toArray, List.set_cons_zero, List.set_cons_succ]
        refine AnyU.next (js := [18]) (by kernel_rfl) (by simp) (NextU.cons rfl (fun K hK => ?_) NextU.nil)
        refine step_append_any rfl (.tmp 12) (.tmp 29) 47 rfl (w.heap.size + 2) 63 (.slice none 0 0) 1 24 infoOs Tryd.underlying47 rfl (by decide) _ i (List.zipWith hdrV hs' (ls.take i)) rfl (HDR.out _ HBZ.out) _ (some ⟨w10.heap.size, 0, none⟩) 1 1 [.slice (some ⟨g10, 0, none⟩) l.length c10] rfl (reads_row7 (xs := [.slice (some ⟨g10, 0, none⟩) l.length c10]) (heap_alloc_new w10 _) rfl) (G7.out _ _ _) G8.out G9.out (by have := HBZ.out.size; have := HZR.out; omega) ?_
        intro v19 w19 hown19 hg19 _
        obtain ⟨A19, c19, hv19, _⟩ := own_sh hown19
        subst hv19
        have HO19 := hide hown19
        have HG19 := hide hg19
        have HB19 : Hid (Below (w.heap.size + 2) wr w19) := hide ((HBZ.out.mono HZR.out).grown hg19 (by have := HBZ.out.size; have := HZR.out; omega) (fun j hj => ((HDR.out wr (Below.refl _ _)).lt j hj).1))
        clear hown19 hg19
        refine hK.out _ _ (fun _ => (HS2.out _ HB19.out)) (fun hHeld => ?_)
        replace hHeld := hHeld (by decide)
        try simp only [Act.put, List.setIfInBounds_toArray, List.set_cons_zero, List.set_cons_succ]
        refine AnyU.next (js := [19]) (by kernel_rfl) (by simp) (NextU.cons rfl (fun K hK => ?_) NextU.nil)
        go_simp
        refine hK.out _ _ (fun h => absurd h (by decide)) (fun _ => ?_)
        try simp only [Act.put, List.setIfInBounds_toArray, List.set_cons_zero, List.set_cons_succ]
        refine AnyU.over (by kernel_rfl) ?_ _
        go_wp2_with fail
        go_roundw
        case rel => exact ⟨i + 1, A19, c19, hs' ++ [(some ⟨g10, 0, none⟩, c10)], by omega, by go_num, rfl, HO.out.push HLX.out (HB10.out.alloc HB10.out.size _) (own_base (own_below HO10.out ((Below.refl _ _).alloc (Nat.le_refl _) _) (Nat.le_refl _)) HZR.out) HG19.out HO19.out, HBR.out.trans HB19.out⟩
        case measure => simp [intOf]; omega
    · obtain rfl : i = ls.length := by omega
      have ho := HO.out
      rw [List.take_of_length_le (Nat.le_refl _)] at ho
      have HOW := hide ho
      have G7 : Hid (∀ (A2 : Option Addr) (n2 c2 : Nat), ∀ u ∈ [Value.slice A2 n2 c2], u.oneCell' = true) := hide (fun A2 n2 c2 u hu => by simp at hu; subst hu; rfl)
      have G8 : Hid (ls.length + 1 ≤ maxLen) := hide (by unfold maxLen; omega)
      have G9 : Hid ((ls.length + 1) * 24 ≤ 140737488355328) := hide (by omega)
      have h0l : (0 : Int) ≤ (ls.length : Int) := by omega
      have HZZ : Hid (Below wr.heap.size wr ((wr.alloc (.cells #[.int .u32 0, .int .i64 772] 74)).alloc (.cells #[.slice (some ⟨wr.heap.size, 0, none⟩) 1 1] 63))) := hide (((Below.refl _ _).alloc (Nat.le_refl _) _).alloc (by simp) _)
      have HBK : Hid (((wr.alloc (.cells #[.int .u32 0, .int .i64 772] 74)).alloc (.cells #[.slice (some ⟨wr.heap.size, 0, none⟩) 1 1] 63)).heap[wr.heap.size + 1]? = some (.cells #[.slice (some ⟨wr.heap.size, 0, none⟩) 1 1] 63 (0, 0))) := hide (by
        have := heap_alloc_new (wr.alloc (.cells #[.int .u32 0, .int .i64 772] 74)) (.cells #[.slice (some ⟨wr.heap.size, 0, none⟩) 1 1] 63)
        rw [World.size_alloc] at this
        exact this)
      have HMK : Hid (((wr.alloc (.cells #[.int .u32 0, .int .i64 772] 74)).alloc (.cells #[.slice (some ⟨wr.heap.size, 0, none⟩) 1 1] 63)).heap[wr.heap.size]? = some (.cells #[.int .u32 0, .int .i64 772] 74 (0, 0))) := hide ((Below.heap_alloc _ _ _ (by simp)).trans (heap_alloc_new wr _))
      clear ho
      go_upto_region 7 with (at_builtin; refine wpList_append_any rfl (.tmp 31) (.tmp 34) 47 rfl (w.heap.size + 2) 63 (.slice none 0 0) 1 24 infoOs Tryd.underlying47 rfl (by decide) _ ls.length (List.zipWith hdrV hs' ls) rfl (own_below HOW.out.hdr HZZ.out (Nat.le_refl _)) _ (some ⟨wr.heap.size + 1, 0, none⟩) 1 1 [.slice (some ⟨wr.heap.size, 0, none⟩) 1 1] rfl (reads_row7 (xs := [.slice (some ⟨wr.heap.size, 0, none⟩) 1 1]) HBK.out rfl) (G7.out _ _ _) G8.out G9.out (by have := HZR.out; simp; omega) ?_; intro v5 w5 hown5 hg5 _; obtain ⟨g5, c5, hv5, _⟩ := hown5.form (by omega); subst hv5; have HO5 := hide hown5; have HG5 := hide hg5; have hcap5 : (ls.length : Int) ≤ (c5 : Int) := (by obtain ⟨_, _, e, hc⟩ := own_sh hown5; injection e with _ _ e; omega); have HB5 : Hid (Below (w.heap.size + 2) wr w5) := hide ((HZZ.out.mono HZR.out).grown hg5 (by have := HZR.out; simp; omega) (fun j hj => (HOW.out.hdr.lt j hj).1)); clear hown5 hg5)
      have HX5 := hide ((HB5.out.block _ (by omega)).trans ((HBR.out.block _ (by omega)).trans HX1.out.1))
      have HY5 := hide ((HB5.out.block _ (by omega)).trans ((HBR.out.block _ (by omega)).trans HX1.out.2))
      clear x1
      have x1 := cell_of_row _ _ 1 _ _ (0, 0) HX5.out
      have f1 := frozen_of_row _ _ 1 _ _ HX5.out
      simp only [List.getElem?_toArray, List.getElem?_cons_zero, List.getElem?_cons_succ] at x1
      go_upto_region 8 with fail
      have HX6 : Hid ((w5.setCell ⟨w.heap.size, 1, none⟩ (.slice (some ⟨g5, 0, none⟩) ls.length c5)).heap[w.heap.size]? = some (.cells #[.int .i64 n, .slice (some ⟨g5, 0, none⟩) ls.length c5] 49 (0, 0))) := hide (setCell_block HX5.out 1 _)
      have HY6 : Hid ((w5.setCell ⟨w.heap.size, 1, none⟩ (.slice (some ⟨g5, 0, none⟩) ls.length c5)).heap[w.heap.size + 1]? = some (.cells #[.int .i64 0, .slice none 0 0] 49 (0, 0))) := hide ((Below.heap_setCell _ _ _ _ (by show w.heap.size + 1 ≠ w.heap.size; omega)).trans HY5.out)
      have HL6 : Hid (OwnL (w5.setCell ⟨w.heap.size, 1, none⟩ (.slice (some ⟨g5, 0, none⟩) ls.length c5)) (w.heap.size + 2) (some ⟨g5, 0, none⟩) c5 hs' ls) := hide ((HOW.out.mark HZZ.out HMK.out HZR.out HG5.out HO5.out).set (b := w.heap.size) (i := 1) (by omega) _)
      have HB6 : Hid (Below w.heap.size w (w5.setCell ⟨w.heap.size, 1, none⟩ (.slice (some ⟨g5, 0, none⟩) ls.length c5))) := hide ((HBW.out.trans (HB5.out.mono (by omega))).setCell (Nat.le_refl _) _)
      clear x1 f1
      generalize w5.setCell ⟨w.heap.size, 1, none⟩ (.slice (some ⟨g5, 0, none⟩) ls.length c5) = w6 at *
      have x0 := cell_of_row _ _ 0 _ _ (0, 0) HX6.out
      have x1 := cell_of_row _ _ 1 _ _ (0, 0) HX6.out
      have y0 := cell_of_row _ _ 0 _ _ (0, 0) HY6.out
      have y1 := cell_of_row _ _ 1 _ _ (0, 0) HY6.out
      have p0 := frozen_of_row _ _ 0 _ _ HY6.out
      have p1 := frozen_of_row _ _ 1 _ _ HY6.out
      simp only [List.getElem?_toArray, List.getElem?_cons_zero, List.getElem?_cons_succ] at x0 x1 y0 y1
      have hr := setCell_block (setCell_block HY6.out 0 (.int .i64 n)) 1 (.slice (some ⟨g5, 0, none⟩) ls.length c5)
      have r0 := cell_of_row _ _ 0 _ _ (0, 0) hr
      have r1 := cell_of_row _ _ 1 _ _ (0, 0) hr
      clear hr
      go_wp2_with fail
      refine bodyPost_ret (v := instV n (some ⟨g5, 0, none⟩) ls.length c5) (by simp [results, Tryd.results33, go_sem, r0, r1]) rfl ?_
      refine ⟨some ⟨g5, 0, none⟩, c5, hs', rfl, ?_, (HB6.out.setCell (by show w.heap.size ≤ w.heap.size + 1; omega) _).setCell (by show w.heap.size ≤ w.heap.size + 1; omega) _⟩
      obtain ⟨q1, ⟨mb, q2, q3, q4⟩, q5⟩ := (HL6.out.set (b := w.heap.size + 1) (i := 0) (by omega) (.int .i64 n)).set (b := w.heap.size + 1) (i := 1) (by omega) (.slice (some ⟨g5, 0, none⟩) ls.length c5)
      exact ⟨q1, ⟨mb, by omega, own_base q3 (by omega), q4⟩, fun i a l ha hl => own_base (q5 i a l ha hl) (by omega)⟩
end Go.Proofs.YtffpiaipdeebcaaDoor
