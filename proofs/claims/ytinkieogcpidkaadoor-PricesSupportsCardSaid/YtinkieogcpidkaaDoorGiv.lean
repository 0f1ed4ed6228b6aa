/- The walk of the laws' helper given: an instance in memory of its own, a mark behind each one's offers. (Printed by gen_giv14.py.) -/
import Derived.Test.YtinkieogcpidkaaDoorPriL
import Derived.Test.YtinkieogcpidkaaDoorUntil
namespace Go.Proofs.YtinkieogcpidkaaDoor
open Go.RowKit Go.Maps Go.Shelf
open Go.ChangeMaps Go.WideMaps

/-- Buyers in memory of the call's own, a mark behind each one's offers. -/
structure OwnM (w : World) (base : Nat) (A : Option Addr) (c : Nat) (hs : List Hdr) (ls : List (List Offer)) : Prop where
  len : hs.length = ls.length
  hdr : w.ownsRow base 55 1 (.slice A ls.length c) ls.length (List.zipWith hdrV hs ls)
  row : ∀ (i : Nat) (h : Hdr) (l : List Offer), hs[i]? = some h → ls[i]? = some l → w.ownsRow base 59 2 (.slice h.1 (l.length + 1) h.2) (l.length + 1) (cells2 offV (l ++ [(77, 0)]))

theorem reads_block {w : World} {b : Nat} {cs : List Value} {t : TypeId} {size n : Nat} (hb : w.heap[b]? = some (.cells cs.toArray t (0, 0))) (hn : cs.length = n * size) : Reads w w.heap.size size (some ⟨b, 0, none⟩) n cs := reads_row hb hn
theorem take_len {α : Type} {ls : List α} {i : Nat} {l : α} (hi : ls[i]? = some l) : (ls.take i).length = i := by
  obtain ⟨h, _⟩ := List.getElem?_eq_some_iff.1 hi
  simp
  omega
theorem OwnM.push {wr Z w19 : World} {base : Nat} {A' A1 A19 : Option Addr} {c' c1 c19 : Nat} {hs' : List Hdr} {ls : List (List Offer)} {i : Nat} {l : List Offer} (ho : OwnM wr base A' c' hs' (ls.take i)) (hi : ls[i]? = some l) (hb : Below wr.heap.size wr Z)
    (hrow : Z.ownsRow base 59 2 (.slice A1 (l.length + 1) c1) (l.length + 1) (cells2 offV (l ++ [(77, 0)]))) (hg : Z.grownBy w19 (Value.slice A' i c').ownBlock)
    (hown : w19.ownsRow base 55 1 (.slice A19 (i + 1) c19) (i + 1) (List.zipWith hdrV hs' (ls.take i) ++ [.slice A1 l.length c1])) : OwnM w19 base A19 c19 (hs' ++ [(A1, c1)]) (ls.take (i + 1)) := by
  have hln := take_len hi
  have hlt : i < ls.length := (List.getElem?_eq_some_iff.1 hi).1
  have hlen : hs'.length = i := by rw [ho.len, hln]
  have hl1 : (ls.take (i + 1)).length = i + 1 := by simp; omega
  have hH : Z.ownsRow base 55 1 (.slice A' i c') i (List.zipWith hdrV hs' (ls.take i)) := by
    have := own_below ho.hdr hb (Nat.le_refl _)
    rw [hln] at this
    exact this
  have hne : ∀ {size n : Nat} {v : Value} {xs : List Value}, Z.ownsRow base 59 size v n xs → w19.ownsRow base 59 size v n xs := by
    intro size n v xs ho
    refine own_far ho hg ?_
    rcases hH.2 with ⟨h1, _⟩ | ⟨g, cap, cur, h1, _, hh, _⟩
    · rw [h1]
      rcases ho.2 with ⟨rfl, _⟩ | ⟨g', cap', cur', rfl, _⟩
      · exact .inr rfl
      · exact .inl (by simp [Value.ownBlock])
    · left
      rw [h1]
      exact own_ne ho hh (by simp)
  refine ⟨by simp [hlen, hl1] <;> omega, ?_, ?_⟩
  · rw [hl1, List.take_add_one, hi, Option.toList_some, List.zipWith_append (by rw [ho.len])]
    exact hown
  · intro j hd l' hj hl'
    rw [List.take_add_one, hi] at hl'
    rcases Nat.lt_or_ge j i with h1 | h1
    · rw [List.getElem?_append_left (by omega)] at hj
      rw [List.getElem?_append_left (by omega)] at hl'
      exact hne (own_below (ho.row j hd l' hj hl') hb (Nat.le_refl _))
    · rw [List.getElem?_append_right (by omega)] at hj
      rw [List.getElem?_append_right (by omega)] at hl'
      have hj0 : j - hs'.length = 0 := by
        rcases Nat.eq_zero_or_pos (j - hs'.length) with h2 | h2
        · exact h2
        · rw [List.getElem?_eq_none (by simp; omega)] at hj; cases hj
      rw [hj0] at hj
      have hl0 : j - (ls.take i).length = 0 := by omega
      rw [hl0] at hl'
      simp at hj hl'
      subst hj hl'
      exact hne hrow
theorem OwnM.set {w : World} {base : Nat} {A : Option Addr} {c : Nat} {hs : List Hdr} {ls : List (List Offer)} (h : OwnM w base A c hs ls) {p : Addr} (hp : p.block < base) (v : Value) : OwnM (w.setCell p v) base A c hs ls := by
  have hf : ∀ {e size n : Nat} {u : Value} {xs : List Value}, w.ownsRow base e size u n xs → (w.setCell p v).ownsRow base e size u n xs := fun h => ownsRow_setCell_other h (fun e => by have := (h.lt _ e).1; omega) _
  exact ⟨h.len, hf h.hdr, fun i a l ha hl => hf (h.row i a l ha hl)⟩

def GivenPost (n : Int) (ls : List (List Offer)) (w : World) (e : Ending) (w' : World) : Prop :=
  ∃ A c hs, e = .returned (instV n A ls.length c) ∧ OwnM w' w.heap.size A c hs ls ∧ Below w.heap.size w w'

set_option maxRecDepth 100000 in
set_option maxHeartbeats 8000000 in
theorem given_any (n : Int) (A : Option Addr) (c : Nat) (hs : List Hdr) (ls : List (List Offer)) (w : World) (h : Buys w w.heap.size A hs ls) (hl : ls.length ≤ 60) (hls : ∀ l ∈ ls, l.length ≤ 60) :
    Calls Tryd.prog 9 #[instV n A ls.length c] w (GivenPost n ls w) := by
  have HA := hide h
  have HL := hide hls
  clear h hls
  simp only [instV]
  go_enter Tryd.func9, Tryd.ntmps9
  go_upto_region 2 with fail
  have HB1 : Hid (Below w.heap.size w (((w.alloc (.cells #[.int .i64 n, .slice A ls.length c] 24)).alloc (.cells #[.int .i64 0, .slice none 0 0] 24)).alloc (.cells #[.int .i64 n, .slice none 0 0] 24))) := hide ((((Below.refl _ _).alloc (Nat.le_refl _) _).alloc (by simp) _).alloc (by simp <;> omega) _)
  have HX1 : Hid ((((w.alloc (.cells #[.int .i64 n, .slice A ls.length c] 24)).alloc (.cells #[.int .i64 0, .slice none 0 0] 24)).alloc (.cells #[.int .i64 n, .slice none 0 0] 24)).heap[w.heap.size]? = some (.cells #[.int .i64 n, .slice A ls.length c] 24 (0, 0)) ∧ (((w.alloc (.cells #[.int .i64 n, .slice A ls.length c] 24)).alloc (.cells #[.int .i64 0, .slice none 0 0] 24)).alloc (.cells #[.int .i64 n, .slice none 0 0] 24)).heap[w.heap.size + 1]? = some (.cells #[.int .i64 0, .slice none 0 0] 24 (0, 0)) ∧ (((w.alloc (.cells #[.int .i64 n, .slice A ls.length c] 24)).alloc (.cells #[.int .i64 0, .slice none 0 0] 24)).alloc (.cells #[.int .i64 n, .slice none 0 0] 24)).heap[w.heap.size + 1 + 1]? = some (.cells #[.int .i64 n, .slice none 0 0] 24 (0, 0))) := hide ⟨by
    rw [Below.heap_alloc _ _ _ (by simp <;> omega), Below.heap_alloc _ _ _ (by simp)]; exact heap_alloc_new w _, by
    rw [Below.heap_alloc _ _ _ (by simp)]
    have := heap_alloc_new (w.alloc (.cells #[.int .i64 n, .slice A ls.length c] 24)) (.cells #[.int .i64 0, .slice none 0 0] 24)
    simpa using this, by
    have := heap_alloc_new ((w.alloc (.cells #[.int .i64 n, .slice A ls.length c] 24)).alloc (.cells #[.int .i64 0, .slice none 0 0] 24)) (.cells #[.int .i64 n, .slice none 0 0] 24)
    simpa using this⟩
  generalize ((w.alloc (.cells #[.int .i64 n, .slice A ls.length c] 24)).alloc (.cells #[.int .i64 0, .slice none 0 0] 24)).alloc (.cells #[.int .i64 n, .slice none 0 0] 24) = w1 at *
  have HZ1 : Hid (w.heap.size + 3 ≤ w1.heap.size) := hide (by have := lt_of_block HX1.out.2.2; omega)
  go_wp2_with fail
  go_loopw [4] (fun iv wr => ∃ (i : Nat) (A' : Option Addr) (c' : Nat) (hs' : List Hdr), i ≤ ls.length ∧ iv = .int .i64 i ∧ OwnM wr (w.heap.size + 3) A' c' hs' (ls.take i) ∧ wr.heap[w.heap.size + 1 + 1]? = some (.cells #[.int .i64 n, .slice A' i c'] 24 (0, 0)) ∧ Below (w.heap.size + 2) w1 wr) (fun iv _ => ls.length - (intOf iv).toNat)
  case atStart => exact ⟨0, none, 0, [], Nat.zero_le _, rfl, ⟨rfl, World.ownsRow_nil _ _ _ _, fun i h l hh => by simp at hh⟩, HX1.out.2.2, Below.refl _ _⟩
  case round =>
    obtain ⟨i, A', c', hs', hi, rfl, ho, hy, hb⟩ := hrel
    have HO := hide ho
    have HYB := hide hy
    have HBR := hide hb
    have HZR : Hid (w.heap.size + 3 ≤ wr.heap.size) := hide (by have := lt_of_block hy; omega)
    have HBW : Hid (Below w.heap.size w wr) := hide (HB1.out.trans (hb.mono (by omega)))
    have HLN : Hid (i ≤ ls.length → (ls.take i).length = i) := hide (fun h => by simp; omega)
    have HX : Hid (∀ W, Below (w.heap.size + 2) wr W → W.cell? ⟨w.heap.size, 1, none⟩ = some (.slice A ls.length c)) := hide (fun W hW => cell_of_row W w.heap.size 1 _ _ (0, 0) ((hW.block _ (by omega)).trans ((HBR.out.block _ (by omega)).trans HX1.out.1)))
    have HY : Hid (∀ W, Below (w.heap.size + 3) wr W → W.cell? ⟨w.heap.size + 1 + 1, 1, none⟩ = some (.slice A' i c') ∧ W.frozen? ⟨w.heap.size + 1 + 1, 1, none⟩ = false) := hide (fun W hW => by
      have h5 := (hW.block (w.heap.size + 1 + 1) (by omega)).trans HYB.out
      exact ⟨cell_of_row W _ 1 _ _ (0, 0) h5, by simp [World.frozen?, h5]⟩)
    have x1 := HX.out wr (Below.refl _ _)
    obtain ⟨y1, y2⟩ := HY.out wr (Below.refl _ _)
    clear ho hy hb
    by_cases hlt : i < ls.length
    · obtain ⟨⟨a1, a2⟩, l, ha, hlx, hro, hca⟩ := HA.out.get hlt
      obtain ⟨bb, bo, rfl, hbB, hat⟩ := HA.out.at_ (by omega)
      have HH : Hid (∀ W, Below w.heap.size w W → W.cell? ⟨bb, bo + i, none⟩ = some (.slice a1 l.length a2)) := hide (fun W hW => (hW.cell (p := ⟨bb, bo + i, none⟩) hbB).trans (hat i _ l ha hlx))
      have HR : Hid (∀ W, Below w.heap.size w W → Offs W w.heap.size a1 l) := hide (fun W hW => hro.below hW)
      have HS : Hid (∀ W, Below (w.heap.size + 2) wr W → W.cell? ⟨w.heap.size, 1, none⟩ = some (.slice (some ⟨bb, bo, none⟩) ls.length c) ∧ W.cell? ⟨bb, bo + i, none⟩ = some (.slice a1 l.length a2)) := hide (fun W hW => ⟨HX.out W hW, HH.out W (HBW.out.trans (hW.mono (by omega)))⟩)
      have hl20 : l.length ≤ 60 := HL.out l (List.mem_of_getElem? hlx)
      have HLX := hide hlx
      have z1 := HH.out wr HBW.out
      have hki : (i : Int) < (ls.length : Int) := by omega
      have HBD : Hid (Below wr.heap.size wr wr.drew) := hide (Below.refl _ _).drew
      have HBA : Hid (∀ o, Below wr.heap.size wr (wr.drew.alloc o)) := hide (fun o => HBD.out.alloc (Nat.le_refl _) o)
      have HS3 : Hid (∀ W, Below (w.heap.size + 3) wr W → W.cell? ⟨w.heap.size, 1, none⟩ = some (.slice (some ⟨bb, bo, none⟩) ls.length c) ∧ W.cell? ⟨bb, bo + i, none⟩ = some (.slice a1 l.length a2) ∧ W.cell? ⟨w.heap.size + 1 + 1, 1, none⟩ = some (.slice A' i c')) := hide (fun W hW => ⟨(HS.out W (hW.mono (by omega))).1, (HS.out W (hW.mono (by omega))).2, (HY.out W hW).1⟩)
      have s0 := hide (HS3.out wr.drew (Below.refl _ _).drew)
      have s0b := hide (fun o o' => HS3.out ((wr.drew.alloc o).alloc o') (((Below.refl _ _).drew.alloc HZR.out o).alloc (by have := HZR.out; simp; omega) o'))
      have s0a := hide (fun o => HS3.out (wr.drew.alloc o) ((Below.refl _ _).drew.alloc HZR.out o))
      have G1 := hide (off_one l)
      have G2 : Hid (0 + l.length ≤ maxLen) := hide (by unfold maxLen; omega)
      have G3 : Hid ((0 + l.length) * 16 ≤ 140737488355328) := hide (by omega)
      have G4 := hide (off_one [(77, 0)])
      have G5 : Hid (l.length + 1 ≤ maxLen) := hide (by unfold maxLen; omega)
      have G6 : Hid ((l.length + 1) * 16 ≤ 140737488355328) := hide (by omega)
      clear hat ha hlx hro hca z1 y1 y2
      have HWX0 : Hid (Below w.heap.size w wr.drew) := hide HBW.out.drew
      have HWXA : Hid (∀ o, Below w.heap.size w (wr.drew.alloc o)) := hide (fun o => HWX0.out.alloc HBW.out.size o)
      have HM : Hid (∀ W, Below wr.heap.size wr W → Below (w.heap.size + 3) wr W ∧ Below (w.heap.size + 2) wr W ∧ Below w.heap.size w W) := hide (fun W hW => ⟨hW.mono HZR.out, hW.mono (by have := HZR.out; omega), HBW.out.trans (hW.mono HBW.out.size)⟩)
      have HDR : Hid (∀ W, Below wr.heap.size wr W → W.ownsRow (w.heap.size + 3) 55 1 (.slice A' i c') i (List.zipWith hdrV hs' (ls.take i))) := hide (fun W hW => by
        have := own_below HO.out.hdr hW (Nat.le_refl _)
        rw [HLN.out (by omega)] at this
        exact this)
      have G7 : Hid (∀ (A2 : Option Addr) (n2 c2 : Nat), ∀ u ∈ [Value.slice A2 n2 c2], u.oneCell' = true) := hide (fun A2 n2 c2 u hu => by simp at hu; subst hu; rfl)
      have G8 : Hid (i + 1 ≤ maxLen) := hide (by unfold maxLen; omega)
      have G9 : Hid ((i + 1) * 24 ≤ 140737488355328) := hide (by omega)
      have h0l : (0 : Int) ≤ (l.length : Int) := by omega
      go_wp2_with fail
      clear x1
      refine wp_region_U 21 (fun w' => w'.cell? ⟨w.heap.size, 1, none⟩ = some (.slice (some ⟨bb, bo, none⟩) ls.length c) ∧ w'.cell? ⟨bb, bo + i, none⟩ = some (.slice a1 l.length a2) ∧ w'.cell? ⟨w.heap.size + 1 + 1, 1, none⟩ = some (.slice A' i c')) rfl ?hS (fun hHeld => ?rest)
      case hS => exact s0.out
      refine AnyU.take (i := 0) (v := ?v1) rfl (by kernel_rfl) (by kernel_rfl) (by kernel_rfl) (by kernel_rfl) (fun _ _ _ h => h) (Or.inl ⟨by rfl, ?hy1⟩) hHeld ?r1
      case hy1 => (intro w hSw; (try dsimp only at hSw); go_simp <;> with_reducible rfl)
      simp only [Act.put, List.setIfInBounds_toArray, List.set_cons_zero, List.set_cons_succ]
      refine AnyU.take (i := 1) (v := ?v2) rfl (by kernel_rfl) (by kernel_rfl) (by kernel_rfl) (by kernel_rfl) (fun _ _ _ h => h) (Or.inl ⟨by rfl, ?hy2⟩) hHeld ?r2
      case hy2 => (intro w hSw; (try dsimp only at hSw); go_simp <;> with_reducible rfl)
      simp only [Act.put, List.setIfInBounds_toArray, List.set_cons_zero, List.set_cons_succ]
      refine AnyU.take (i := 3) (v := ?v3) rfl (by kernel_rfl) (by kernel_rfl) (by kernel_rfl) (by kernel_rfl) (fun _ _ _ h => h) (Or.inl ⟨by rfl, ?hy3⟩) hHeld ?r3
      case hy3 => (intro w hSw; (try dsimp only at hSw); go_simp <;> with_reducible rfl)
      simp only [Act.put, List.setIfInBounds_toArray, List.set_cons_zero, List.set_cons_succ]
      refine AnyU.take (i := 4) (v := ?v4) rfl (by kernel_rfl) (by kernel_rfl) (by kernel_rfl) (by kernel_rfl) (fun _ _ _ h => h) (Or.inl ⟨by rfl, ?hy4⟩) hHeld ?r4
      case hy4 => (intro w hSw; (try dsimp only at hSw); go_simp <;> with_reducible rfl)
      simp only [Act.put, List.setIfInBounds_toArray, List.set_cons_zero, List.set_cons_succ]
      refine AnyU.take (i := 5) (v := ?v5) rfl (by kernel_rfl) (by kernel_rfl) (by kernel_rfl) (by kernel_rfl) (fun _ _ _ h => h) (Or.inl ⟨by rfl, ?hy5⟩) hHeld ?r5
      case hy5 => (intro w hSw; (try dsimp only at hSw); go_simp <;> with_reducible rfl)
      simp only [Act.put, List.setIfInBounds_toArray, List.set_cons_zero, List.set_cons_succ]
      refine AnyU.take (i := 6) (v := ?v6) rfl (by kernel_rfl) (by kernel_rfl) (by kernel_rfl) (by kernel_rfl) (fun _ _ _ h => h) (Or.inl ⟨by rfl, ?hy6⟩) hHeld ?r6
      case hy6 => (intro w hSw; (try dsimp only at hSw); go_simp <;> with_reducible rfl)
      simp only [Act.put, List.setIfInBounds_toArray, List.set_cons_zero, List.set_cons_succ]
      refine AnyU.take (i := 7) (v := ?v7) rfl (by kernel_rfl) (by kernel_rfl) (by kernel_rfl) (by kernel_rfl) (fun _ _ _ h => h) (Or.inl ⟨by rfl, ?hy7⟩) hHeld ?r7
      case hy7 => (intro w hSw; (try dsimp only at hSw); go_simp <;> with_reducible rfl)
      simp only [Act.put, List.setIfInBounds_toArray, List.set_cons_zero, List.set_cons_succ]
      refine AnyU.take (i := 9) (v := ?v8) rfl (by kernel_rfl) (by kernel_rfl) (by kernel_rfl) (by kernel_rfl) (fun _ _ _ h => h) (Or.inl ⟨by rfl, ?hy8⟩) hHeld ?r8
      case hy8 => (intro w hSw; (try dsimp only at hSw); go_simp <;> with_reducible rfl)
      simp only [Act.put, List.setIfInBounds_toArray, List.set_cons_zero, List.set_cons_succ]
      refine AnyU.take (i := 12) (v := ?v9) rfl (by kernel_rfl) (by kernel_rfl) (by kernel_rfl) (by kernel_rfl) (fun _ _ _ h => h) (Or.inl ⟨by rfl, ?hy9⟩) hHeld ?r9
      case hy9 => (intro w hSw; (try dsimp only at hSw); go_simp <;> with_reducible rfl)
      simp only [Act.put, List.setIfInBounds_toArray, List.set_cons_zero, List.set_cons_succ]
      refine AnyU.take (i := 13) (v := ?v10) rfl (by kernel_rfl) (by kernel_rfl) (by kernel_rfl) (by kernel_rfl) (fun _ _ _ h => h) (Or.inl ⟨by rfl, ?hy10⟩) hHeld ?r10
      case hy10 => (intro w hSw; (try dsimp only at hSw); go_simp <;> with_reducible rfl)
      simp only [Act.put, List.setIfInBounds_toArray, List.set_cons_zero, List.set_cons_succ]
      refine AnyU.take (i := 14) (v := ?v11) rfl (by kernel_rfl) (by kernel_rfl) (by kernel_rfl) (by kernel_rfl) (fun _ _ _ h => h) (Or.inl ⟨by rfl, ?hy11⟩) hHeld ?r11
      case hy11 => (intro w hSw; (try dsimp only at hSw); go_simp <;> with_reducible rfl)
      simp only [Act.put, List.setIfInBounds_toArray, List.set_cons_zero, List.set_cons_succ]
      refine AnyU.take (i := 15) (v := ?v12) rfl (by kernel_rfl) (by kernel_rfl) (by kernel_rfl) (by kernel_rfl) (fun _ _ _ h => h) (Or.inl ⟨by rfl, ?hy12⟩) hHeld ?r12
      case hy12 => (intro w hSw; (try dsimp only at hSw); go_simp <;> with_reducible rfl)
      simp only [Act.put, List.setIfInBounds_toArray, List.set_cons_zero, List.set_cons_succ]
      refine AnyU.take (i := 16) (v := ?v13) rfl (by kernel_rfl) (by kernel_rfl) (by kernel_rfl) (by kernel_rfl) (fun _ _ _ h => h) (Or.inl ⟨by rfl, ?hy13⟩) hHeld ?r13
      case hy13 => (intro w hSw; (try dsimp only at hSw); go_simp <;> with_reducible rfl)
      simp only [Act.put, List.setIfInBounds_toArray, List.set_cons_zero, List.set_cons_succ]
      refine AnyU.take (i := 17) (v := ?v14) rfl (by kernel_rfl) (by kernel_rfl) (by kernel_rfl) (by kernel_rfl) (fun _ _ _ h => h) (Or.inl ⟨by rfl, ?hy14⟩) hHeld ?r14
      case hy14 => (intro w hSw; (try dsimp only at hSw); go_simp <;> with_reducible rfl)
      simp only [Act.put, List.setIfInBounds_toArray, List.set_cons_zero, List.set_cons_succ]
      refine AnyU.next (js := [2, 10]) (by kernel_rfl) (by simp) (NextU.cons rfl (fun K hK => ?_) (NextU.cons rfl (fun K hK => ?_) NextU.nil))
      · go_simp
        refine hK.out _ _ (fun _ => s0a.out _) (fun hHeld => ?_)
        replace hHeld := hHeld (by decide)
        try simp only [Act.put, List.setIfInBounds_toArray, List.set_cons_zero, List.set_cons_succ]
        refine AnyU.next (js := [8, 10]) (by kernel_rfl) (by simp) (NextU.cons rfl (fun K hK => ?_) (NextU.cons rfl (fun K hK => ?_) NextU.nil))
        · have HBX : Hid (Below wr.heap.size wr (wr.drew.alloc (.cells #[] 59))) := hide (HBA.out _)
          have HOE : Hid ((wr.drew.alloc (.cells #[] 59)).ownsRow wr.heap.size 59 2 (.slice (some ⟨wr.heap.size, 0, none⟩) 0 0) 0 []) := hide (World.ownsRow_made wr.drew #[] 0 (Nat.le_refl _) (by decide) rfl)
          refine step_append_any rfl (.tmp 17) (.tmp 22) 55 rfl wr.heap.size 59 (.agg #[.int .u32 0, .int .i64 0]) 2 16 infoO Tryd.underlying55 rfl (by decide) _ 0 [] rfl HOE.out w.heap.size a1 l.length a2 (cells2 offV l) rfl (HR.out _ (HBW.out.trans (HBX.out.mono HBW.out.size))) G1.out G2.out G3.out HBX.out.size ?_
          intro v7 w7 hown7 hg7 _
          rw [Nat.zero_add, List.nil_append] at hown7
          obtain ⟨A7, c7, hv7, _⟩ := own_sh hown7
          subst hv7
          have HO7 := hide hown7
          have HB7 : Hid (Below wr.heap.size wr w7) := hide (HBX.out.grown hg7 HBX.out.size (fun j hj => (HOE.out.lt j hj).1))
          have s7 := hide (HS3.out w7 (HM.out w7 HB7.out).1)
          have s7a := hide (fun o => HS3.out (w7.alloc o) ((HM.out w7 HB7.out).1.alloc (by have := HB7.out.size; have := HZR.out; omega) o))
          clear hown7 hg7
          refine hK.out _ _ (fun _ => s7.out) (fun hHeld => ?_)
          replace hHeld := hHeld (by decide)
          try simp only [Act.put, List.setIfInBounds_toArray, List.set_cons_zero, List.set_cons_succ]
          refine AnyU.next (js := [10]) (by kernel_rfl) (by simp) (NextU.cons rfl (fun K hK => ?_) NextU.nil)
          go_simp
          refine hK.out _ _ (fun _ => s7a.out _) (fun hHeld => ?_)
          replace hHeld := hHeld (by decide)
          try simp only [Act.put, List.setIfInBounds_toArray, List.set_cons_zero, List.set_cons_succ]
          refine AnyU.next (js := [11]) (by kernel_rfl) (by simp) (NextU.cons rfl (fun K hK => ?_) NextU.nil)
          refine step_append_any rfl (.tmp 23) (.tmp 25) 55 rfl wr.heap.size 59 (.agg #[.int .u32 0, .int .i64 0]) 2 16 infoO Tryd.underlying55 rfl (by decide) _ l.length (cells2 offV l) rfl (own_below HO7.out ((Below.refl _ _).alloc (Nat.le_refl _) _) (Nat.le_refl _)) _ (some ⟨w7.heap.size, 0, none⟩) 1 1 (cells2 offV [(77, 0)]) rfl (reads_block (heap_alloc_new w7 _) rfl) G4.out G5.out G6.out (by first | exact HB7.out.size | (have := HB7.out.size; simp; omega)) ?_
          intro v10 w10 hown10 hg10 _
          obtain ⟨g10, c10, hv10, _, _⟩ := hown10.form (by omega)
          subst hv10
          have HB10 : Hid (Below wr.heap.size wr w10) := hide ((HB7.out.alloc HB7.out.size _ : Below wr.heap.size wr _).grown hg10 (by first | exact HB7.out.size | (have := HB7.out.size; simp; omega)) (fun j hj => (HO7.out.lt j hj).1))
          have hcap10 : (l.length : Int) ≤ (c10 : Int) := (by obtain ⟨_, _, e, hc⟩ := own_sh hown10; injection e with _ _ e; omega)
          have HO10 : Hid (w10.ownsRow wr.heap.size 59 2 (.slice (some ⟨g10, 0, none⟩) (l.length + 1) c10) (l.length + 1) (cells2 offV (l ++ [(77, 0)]))) := hide (by rw [show cells2 offV (l ++ [(77, 0)]) = cells2 offV l ++ cells2 offV [(77, 0)] from List.flatMap_append]; exact hown10)
          have s10 := hide (HS3.out w10 (HM.out w10 HB10.out).1)
          have s10a := hide (fun o => HS3.out (w10.alloc o) ((HM.out w10 HB10.out).1.alloc (by have := HB10.out.size; have := HZR.out; omega) o))
          clear hown10 hg10
          refine hK.out _ _ (fun _ => s10.out) (fun hHeld => ?_)
          replace hHeld := hHeld (by decide)
          try simp only [Act.put, List.setIfInBounds_toArray, List.set_cons_zero, List.set_cons_succ]
          refine AnyU.take (i := 18) (v := ?v15) rfl (by kernel_rfl) (by kernel_rfl) (by kernel_rfl) (by kernel_rfl) (fun _ _ _ h => h) (Or.inl ⟨by rfl, ?hy15⟩) hHeld ?r15
          case hy15 => (intro w hSw; (try dsimp only at hSw); go_simp <;> with_reducible rfl)
          simp only [Act.put, List.setIfInBounds_toArray, List.set_cons_zero, List.set_cons_succ]
          refine AnyU.next (js := [19]) (by kernel_rfl) (by simp) (NextU.cons rfl (fun K hK => ?_) NextU.nil)
          go_simp
          refine hK.out _ _ (fun _ => s10a.out _) (fun hHeld => ?_)
          replace hHeld := hHeld (by decide)
          try simp only [Act.put, List.setIfInBounds_toArray, List.set_cons_zero, List.set_cons_succ]
          refine AnyU.next (js := [20]) (by kernel_rfl) (by simp) (NextU.cons rfl (fun K hK => ?_) NextU.nil)
          refine step_append_any rfl (.tmp 16) (.tmp 34) 22 rfl (w.heap.size + 3) 55 (.slice none 0 0) 1 24 infoOs Tryd.underlying22 rfl (by decide) _ i (List.zipWith hdrV hs' (ls.take i)) rfl (HDR.out _ (HB10.out.alloc HB10.out.size _)) _ (some ⟨w10.heap.size, 0, none⟩) 1 1 [.slice (some ⟨g10, 0, none⟩) l.length c10] rfl (reads_block (heap_alloc_new w10 _) rfl) (G7.out _ _ _) G8.out G9.out (by have := HB10.out.size; have := HZR.out; simp; omega) ?_
          intro v19 w19 hown19 hg19 _
          obtain ⟨A19, c19, hv19, _⟩ := own_sh hown19
          subst hv19
          have HO19 := hide hown19
          have HG19 := hide hg19
          have HBZ : Hid (∀ o, Below wr.heap.size wr (w10.alloc o)) := hide (fun o => HB10.out.alloc HB10.out.size o)
          have HB19 : Hid (Below (w.heap.size + 3) wr w19) := hide ((HM.out _ (HBZ.out _)).1.grown hg19 (by have := HB10.out.size; have := HZR.out; simp; omega) (fun j hj => ((HDR.out wr (Below.refl _ _)).lt j hj).1))
          obtain ⟨y19, y19f⟩ := HY.out w19 HB19.out
          have s19 := hide (HS3.out w19 HB19.out)
          clear hown19 hg19
          refine hK.out _ _ (fun _ => s19.out) (fun hHeld => ?_)
          replace hHeld := hHeld (by decide)
          try simp only [Act.put, List.setIfInBounds_toArray, List.set_cons_zero, List.set_cons_succ]
          refine AnyU.next (js := [21]) (by kernel_rfl) (by simp) (NextU.cons rfl (fun K hK => ?_) NextU.nil)
          go_simp
          refine hK.out _ _ (fun h => absurd h (by decide)) (fun _ => ?_)
          try simp only [Act.put, List.setIfInBounds_toArray, List.set_cons_zero, List.set_cons_succ]
          refine AnyU.next (js := [22]) (by kernel_rfl) (by simp) (NextU.cons rfl (fun K hK => ?_) NextU.nil)
          go_simp
          refine hK.out _ _ (fun h => absurd h (by decide)) (fun _ => ?_)
          try simp only [Act.put, List.setIfInBounds_toArray, List.set_cons_zero, List.set_cons_succ]
          refine AnyU.over (by kernel_rfl) ?_ _
          go_wp2_with fail
          refine ⟨⟨i + 1, A19, c19, hs' ++ [(some ⟨g10, 0, none⟩, c10)], by omega, by go_num, ?_, ?_, ?_⟩, by simp [intOf]; omega⟩
          · exact (HO.out.push HLX.out (HB10.out.alloc HB10.out.size _) (own_base (own_below HO10.out ((Below.refl _ _).alloc (Nat.le_refl _) _) (Nat.le_refl _)) HZR.out) HG19.out HO19.out).set (by show w.heap.size + 1 + 1 < w.heap.size + 3; omega) _
          · exact setCell_block ((HB19.out.block (w.heap.size + 1 + 1) (by omega)).trans HYB.out) 1 _
          · exact (HBR.out.trans (HB19.out.mono (by omega))).setCell (by show w.heap.size + 2 ≤ w.heap.size + 1 + 1; omega) _
        · go_simp
          refine hK.out _ _ (fun _ => s0b.out _ _) (fun hHeld => ?_)
          replace hHeld := hHeld (by decide)
          try simp only [Act.put, List.setIfInBounds_toArray, List.set_cons_zero, List.set_cons_succ]
          have HBX : Hid (Below wr.heap.size wr ((wr.drew.alloc (.cells #[] 59)).alloc (.cells #[.int .u32 77, .int .i64 0] 59))) := hide ((HBA.out _).alloc (by simp) _)
          have HOE : Hid (((wr.drew.alloc (.cells #[] 59)).alloc (.cells #[.int .u32 77, .int .i64 0] 59)).ownsRow wr.heap.size 59 2 (.slice (some ⟨wr.heap.size, 0, none⟩) 0 0) 0 []) := hide (own_below (World.ownsRow_made wr.drew #[] 0 (Nat.le_refl _) (by decide) rfl) ((Below.refl _ _).alloc (Nat.le_refl _) _) (Nat.le_refl _))
          have HM0 : Hid (((wr.drew.alloc (.cells #[] 59)).alloc (.cells #[.int .u32 77, .int .i64 0] 59)).heap[wr.heap.size + 1]? = some (.cells #[.int .u32 77, .int .i64 0] 59 (0, 0))) := hide (by have h := heap_alloc_new (wr.drew.alloc (.cells #[] 59)) (.cells #[.int .u32 77, .int .i64 0] 59); simpa using h)
          refine AnyU.next (js := [8]) (by kernel_rfl) (by simp) (NextU.cons rfl (fun K hK => ?_) NextU.nil)
          refine step_append_any rfl (.tmp 17) (.tmp 22) 55 rfl wr.heap.size 59 (.agg #[.int .u32 0, .int .i64 0]) 2 16 infoO Tryd.underlying55 rfl (by decide) _ 0 [] rfl HOE.out w.heap.size a1 l.length a2 (cells2 offV l) rfl (HR.out _ (HBW.out.trans (HBX.out.mono HBW.out.size))) G1.out G2.out G3.out HBX.out.size ?_
          intro v7 w7 hown7 hg7 _
          rw [Nat.zero_add, List.nil_append] at hown7
          obtain ⟨A7, c7, hv7, _⟩ := own_sh hown7
          subst hv7
          have HO7 := hide hown7
          have HB7 : Hid (Below wr.heap.size wr w7) := hide (HBX.out.grown hg7 HBX.out.size (fun j hj => (HOE.out.lt j hj).1))
          have HMB : Hid (w7.heap[wr.heap.size + 1]? = some (.cells #[.int .u32 77, .int .i64 0] 59 (0, 0))) := hide ((hg7.block (wr.heap.size + 1) (lt_of_block HM0.out) (show some (wr.heap.size + 1) ≠ some (wr.heap.size) from fun e => by have e2 := Option.some.inj e; omega)).trans HM0.out)
          have s7 := hide (HS3.out w7 (HM.out w7 HB7.out).1)
          have s7a := hide (fun o => HS3.out (w7.alloc o) ((HM.out w7 HB7.out).1.alloc (by have := HB7.out.size; have := HZR.out; omega) o))
          clear hown7 hg7
          refine hK.out _ _ (fun _ => s7.out) (fun hHeld => ?_)
          replace hHeld := hHeld (by decide)
          try simp only [Act.put, List.setIfInBounds_toArray, List.set_cons_zero, List.set_cons_succ]
          refine AnyU.next (js := [11]) (by kernel_rfl) (by simp) (NextU.cons rfl (fun K hK => ?_) NextU.nil)
          refine step_append_any rfl (.tmp 23) (.tmp 25) 55 rfl wr.heap.size 59 (.agg #[.int .u32 0, .int .i64 0]) 2 16 infoO Tryd.underlying55 rfl (by decide) _ l.length (cells2 offV l) rfl (HO7.out) _ (some ⟨wr.heap.size + 1, 0, none⟩) 1 1 (cells2 offV [(77, 0)]) rfl (reads_block HMB.out rfl) G4.out G5.out G6.out (by first | exact HB7.out.size | (have := HB7.out.size; simp; omega)) ?_
          intro v10 w10 hown10 hg10 _
          obtain ⟨g10, c10, hv10, _, _⟩ := hown10.form (by omega)
          subst hv10
          have HB10 : Hid (Below wr.heap.size wr w10) := hide ((HB7.out : Below wr.heap.size wr _).grown hg10 (by first | exact HB7.out.size | (have := HB7.out.size; simp; omega)) (fun j hj => (HO7.out.lt j hj).1))
          have hcap10 : (l.length : Int) ≤ (c10 : Int) := (by obtain ⟨_, _, e, hc⟩ := own_sh hown10; injection e with _ _ e; omega)
          have HO10 : Hid (w10.ownsRow wr.heap.size 59 2 (.slice (some ⟨g10, 0, none⟩) (l.length + 1) c10) (l.length + 1) (cells2 offV (l ++ [(77, 0)]))) := hide (by rw [show cells2 offV (l ++ [(77, 0)]) = cells2 offV l ++ cells2 offV [(77, 0)] from List.flatMap_append]; exact hown10)
          have s10 := hide (HS3.out w10 (HM.out w10 HB10.out).1)
          have s10a := hide (fun o => HS3.out (w10.alloc o) ((HM.out w10 HB10.out).1.alloc (by have := HB10.out.size; have := HZR.out; omega) o))
          clear hown10 hg10
          refine hK.out _ _ (fun _ => s10.out) (fun hHeld => ?_)
          replace hHeld := hHeld (by decide)
          try simp only [Act.put, List.setIfInBounds_toArray, List.set_cons_zero, List.set_cons_succ]
          refine AnyU.take (i := 18) (v := ?v16) rfl (by kernel_rfl) (by kernel_rfl) (by kernel_rfl) (by kernel_rfl) (fun _ _ _ h => h) (Or.inl ⟨by rfl, ?hy16⟩) hHeld ?r16
          case hy16 => (intro w hSw; (try dsimp only at hSw); go_simp <;> with_reducible rfl)
          simp only [Act.put, List.setIfInBounds_toArray, List.set_cons_zero, List.set_cons_succ]
          refine AnyU.next (js := [19]) (by kernel_rfl) (by simp) (NextU.cons rfl (fun K hK => ?_) NextU.nil)
          go_simp
          refine hK.out _ _ (fun _ => s10a.out _) (fun hHeld => ?_)
          replace hHeld := hHeld (by decide)
          try simp only [Act.put, List.setIfInBounds_toArray, List.set_cons_zero, List.set_cons_succ]
          refine AnyU.next (js := [20]) (by kernel_rfl) (by simp) (NextU.cons rfl (fun K hK => ?_) NextU.nil)
          refine step_append_any rfl (.tmp 16) (.tmp 34) 22 rfl (w.heap.size + 3) 55 (.slice none 0 0) 1 24 infoOs Tryd.underlying22 rfl (by decide) _ i (List.zipWith hdrV hs' (ls.take i)) rfl (HDR.out _ (HB10.out.alloc HB10.out.size _)) _ (some ⟨w10.heap.size, 0, none⟩) 1 1 [.slice (some ⟨g10, 0, none⟩) l.length c10] rfl (reads_block (heap_alloc_new w10 _) rfl) (G7.out _ _ _) G8.out G9.out (by have := HB10.out.size; have := HZR.out; simp; omega) ?_
          intro v19 w19 hown19 hg19 _
          obtain ⟨A19, c19, hv19, _⟩ := own_sh hown19
          subst hv19
          have HO19 := hide hown19
          have HG19 := hide hg19
          have HBZ : Hid (∀ o, Below wr.heap.size wr (w10.alloc o)) := hide (fun o => HB10.out.alloc HB10.out.size o)
          have HB19 : Hid (Below (w.heap.size + 3) wr w19) := hide ((HM.out _ (HBZ.out _)).1.grown hg19 (by have := HB10.out.size; have := HZR.out; simp; omega) (fun j hj => ((HDR.out wr (Below.refl _ _)).lt j hj).1))
          obtain ⟨y19, y19f⟩ := HY.out w19 HB19.out
          have s19 := hide (HS3.out w19 HB19.out)
          clear hown19 hg19
          refine hK.out _ _ (fun _ => s19.out) (fun hHeld => ?_)
          replace hHeld := hHeld (by decide)
          try simp only [Act.put, List.setIfInBounds_toArray, List.set_cons_zero, List.set_cons_succ]
          refine AnyU.next (js := [21]) (by kernel_rfl) (by simp) (NextU.cons rfl (fun K hK => ?_) NextU.nil)
          go_simp
          refine hK.out _ _ (fun h => absurd h (by decide)) (fun _ => ?_)
          try simp only [Act.put, List.setIfInBounds_toArray, List.set_cons_zero, List.set_cons_succ]
          refine AnyU.next (js := [22]) (by kernel_rfl) (by simp) (NextU.cons rfl (fun K hK => ?_) NextU.nil)
          go_simp
          refine hK.out _ _ (fun h => absurd h (by decide)) (fun _ => ?_)
          try simp only [Act.put, List.setIfInBounds_toArray, List.set_cons_zero, List.set_cons_succ]
          refine AnyU.over (by kernel_rfl) ?_ _
          go_wp2_with fail
          refine ⟨⟨i + 1, A19, c19, hs' ++ [(some ⟨g10, 0, none⟩, c10)], by omega, by go_num, ?_, ?_, ?_⟩, by simp [intOf]; omega⟩
          · exact (HO.out.push HLX.out (HB10.out.alloc HB10.out.size _) (own_base (own_below HO10.out ((Below.refl _ _).alloc (Nat.le_refl _) _) (Nat.le_refl _)) HZR.out) HG19.out HO19.out).set (by show w.heap.size + 1 + 1 < w.heap.size + 3; omega) _
          · exact setCell_block ((HB19.out.block (w.heap.size + 1 + 1) (by omega)).trans HYB.out) 1 _
          · exact (HBR.out.trans (HB19.out.mono (by omega))).setCell (by show w.heap.size + 2 ≤ w.heap.size + 1 + 1; omega) _
      · go_simp
        refine hK.out _ _ (fun _ => s0a.out _) (fun hHeld => ?_)
        replace hHeld := hHeld (by decide)
        try simp only [Act.put, List.setIfInBounds_toArray, List.set_cons_zero, List.set_cons_succ]
        refine AnyU.next (js := [2]) (by kernel_rfl) (by simp) (NextU.cons rfl (fun K hK => ?_) NextU.nil)
        go_simp
        refine hK.out _ _ (fun _ => s0b.out _ _) (fun hHeld => ?_)
        replace hHeld := hHeld (by decide)
        try simp only [Act.put, List.setIfInBounds_toArray, List.set_cons_zero, List.set_cons_succ]
        have HBX : Hid (Below wr.heap.size wr ((wr.drew.alloc (.cells #[.int .u32 77, .int .i64 0] 59)).alloc (.cells #[] 59))) := hide ((HBA.out _).alloc (by simp) _)
        have HOE : Hid (((wr.drew.alloc (.cells #[.int .u32 77, .int .i64 0] 59)).alloc (.cells #[] 59)).ownsRow wr.heap.size 59 2 (.slice (some ⟨wr.heap.size + 1, 0, none⟩) 0 0) 0 []) := hide (by have h := own_base (World.ownsRow_made (size := 2) (e := 59) (wr.drew.alloc (.cells #[.int .u32 77, .int .i64 0] 59)) #[] 0 (Nat.le_refl _) (by decide) rfl) (show wr.heap.size ≤ (wr.drew.alloc (.cells #[.int .u32 77, .int .i64 0] 59)).heap.size by simp); simpa using h)
        have HM0 : Hid (((wr.drew.alloc (.cells #[.int .u32 77, .int .i64 0] 59)).alloc (.cells #[] 59)).heap[wr.heap.size]? = some (.cells #[.int .u32 77, .int .i64 0] 59 (0, 0))) := hide ((Below.heap_alloc _ _ _ (by simp)).trans (heap_alloc_new wr.drew _))
        refine AnyU.next (js := [8]) (by kernel_rfl) (by simp) (NextU.cons rfl (fun K hK => ?_) NextU.nil)
        refine step_append_any rfl (.tmp 17) (.tmp 22) 55 rfl wr.heap.size 59 (.agg #[.int .u32 0, .int .i64 0]) 2 16 infoO Tryd.underlying55 rfl (by decide) _ 0 [] rfl HOE.out w.heap.size a1 l.length a2 (cells2 offV l) rfl (HR.out _ (HBW.out.trans (HBX.out.mono HBW.out.size))) G1.out G2.out G3.out HBX.out.size ?_
        intro v7 w7 hown7 hg7 _
        rw [Nat.zero_add, List.nil_append] at hown7
        obtain ⟨A7, c7, hv7, _⟩ := own_sh hown7
        subst hv7
        have HO7 := hide hown7
        have HB7 : Hid (Below wr.heap.size wr w7) := hide (HBX.out.grown hg7 HBX.out.size (fun j hj => (HOE.out.lt j hj).1))
        have HMB : Hid (w7.heap[wr.heap.size]? = some (.cells #[.int .u32 77, .int .i64 0] 59 (0, 0))) := hide ((hg7.block (wr.heap.size) (lt_of_block HM0.out) (show some (wr.heap.size) ≠ some (wr.heap.size + 1) from fun e => by have e2 := Option.some.inj e; omega)).trans HM0.out)
        have s7 := hide (HS3.out w7 (HM.out w7 HB7.out).1)
        have s7a := hide (fun o => HS3.out (w7.alloc o) ((HM.out w7 HB7.out).1.alloc (by have := HB7.out.size; have := HZR.out; omega) o))
        clear hown7 hg7
        refine hK.out _ _ (fun _ => s7.out) (fun hHeld => ?_)
        replace hHeld := hHeld (by decide)
        try simp only [Act.put, List.setIfInBounds_toArray, List.set_cons_zero, List.set_cons_succ]
        refine AnyU.next (js := [11]) (by kernel_rfl) (by simp) (NextU.cons rfl (fun K hK => ?_) NextU.nil)
        refine step_append_any rfl (.tmp 23) (.tmp 25) 55 rfl wr.heap.size 59 (.agg #[.int .u32 0, .int .i64 0]) 2 16 infoO Tryd.underlying55 rfl (by decide) _ l.length (cells2 offV l) rfl (HO7.out) _ (some ⟨wr.heap.size, 0, none⟩) 1 1 (cells2 offV [(77, 0)]) rfl (reads_block HMB.out rfl) G4.out G5.out G6.out (by first | exact HB7.out.size | (have := HB7.out.size; simp; omega)) ?_
        intro v10 w10 hown10 hg10 _
        obtain ⟨g10, c10, hv10, _, _⟩ := hown10.form (by omega)
        subst hv10
        have HB10 : Hid (Below wr.heap.size wr w10) := hide ((HB7.out : Below wr.heap.size wr _).grown hg10 (by first | exact HB7.out.size | (have := HB7.out.size; simp; omega)) (fun j hj => (HO7.out.lt j hj).1))
        have hcap10 : (l.length : Int) ≤ (c10 : Int) := (by obtain ⟨_, _, e, hc⟩ := own_sh hown10; injection e with _ _ e; omega)
        have HO10 : Hid (w10.ownsRow wr.heap.size 59 2 (.slice (some ⟨g10, 0, none⟩) (l.length + 1) c10) (l.length + 1) (cells2 offV (l ++ [(77, 0)]))) := hide (by rw [show cells2 offV (l ++ [(77, 0)]) = cells2 offV l ++ cells2 offV [(77, 0)] from List.flatMap_append]; exact hown10)
        have s10 := hide (HS3.out w10 (HM.out w10 HB10.out).1)
        have s10a := hide (fun o => HS3.out (w10.alloc o) ((HM.out w10 HB10.out).1.alloc (by have := HB10.out.size; have := HZR.out; omega) o))
        clear hown10 hg10
        refine hK.out _ _ (fun _ => s10.out) (fun hHeld => ?_)
        replace hHeld := hHeld (by decide)
        try simp only [Act.put, List.setIfInBounds_toArray, List.set_cons_zero, List.set_cons_succ]
        refine AnyU.take (i := 18) (v := ?v17) rfl (by kernel_rfl) (by kernel_rfl) (by kernel_rfl) (by kernel_rfl) (fun _ _ _ h => h) (Or.inl ⟨by rfl, ?hy17⟩) hHeld ?r17
        case hy17 => (intro w hSw; (try dsimp only at hSw); go_simp <;> with_reducible rfl)
        simp only [Act.put, List.setIfInBounds_toArray, List.set_cons_zero, List.set_cons_succ]
        refine AnyU.next (js := [19]) (by kernel_rfl) (by simp) (NextU.cons rfl (fun K hK => ?_) NextU.nil)
        go_simp
        refine hK.out _ _ (fun _ => s10a.out _) (fun hHeld => ?_)
        replace hHeld := hHeld (by decide)
        try simp only [Act.put, List.setIfInBounds_toArray, List.set_cons_zero, List.set_cons_succ]
        refine AnyU.next (js := [20]) (by kernel_rfl) (by simp) (NextU.cons rfl (fun K hK => ?_) NextU.nil)
        refine step_append_any rfl (.tmp 16) (.tmp 34) 22 rfl (w.heap.size + 3) 55 (.slice none 0 0) 1 24 infoOs Tryd.underlying22 rfl (by decide) _ i (List.zipWith hdrV hs' (ls.take i)) rfl (HDR.out _ (HB10.out.alloc HB10.out.size _)) _ (some ⟨w10.heap.size, 0, none⟩) 1 1 [.slice (some ⟨g10, 0, none⟩) l.length c10] rfl (reads_block (heap_alloc_new w10 _) rfl) (G7.out _ _ _) G8.out G9.out (by have := HB10.out.size; have := HZR.out; simp; omega) ?_
        intro v19 w19 hown19 hg19 _
        obtain ⟨A19, c19, hv19, _⟩ := own_sh hown19
        subst hv19
        have HO19 := hide hown19
        have HG19 := hide hg19
        have HBZ : Hid (∀ o, Below wr.heap.size wr (w10.alloc o)) := hide (fun o => HB10.out.alloc HB10.out.size o)
        have HB19 : Hid (Below (w.heap.size + 3) wr w19) := hide ((HM.out _ (HBZ.out _)).1.grown hg19 (by have := HB10.out.size; have := HZR.out; simp; omega) (fun j hj => ((HDR.out wr (Below.refl _ _)).lt j hj).1))
        obtain ⟨y19, y19f⟩ := HY.out w19 HB19.out
        have s19 := hide (HS3.out w19 HB19.out)
        clear hown19 hg19
        refine hK.out _ _ (fun _ => s19.out) (fun hHeld => ?_)
        replace hHeld := hHeld (by decide)
        try simp only [Act.put, List.setIfInBounds_toArray, List.set_cons_zero, List.set_cons_succ]
        refine AnyU.next (js := [21]) (by kernel_rfl) (by simp) (NextU.cons rfl (fun K hK => ?_) NextU.nil)
        go_simp
        refine hK.out _ _ (fun h => absurd h (by decide)) (fun _ => ?_)
        try simp only [Act.put, List.setIfInBounds_toArray, List.set_cons_zero, List.set_cons_succ]
        refine AnyU.next (js := [22]) (by kernel_rfl) (by simp) (NextU.cons rfl (fun K hK => ?_) NextU.nil)
        go_simp
        refine hK.out _ _ (fun h => absurd h (by decide)) (fun _ => ?_)
        try simp only [Act.put, List.setIfInBounds_toArray, List.set_cons_zero, List.set_cons_succ]
        refine AnyU.over (by kernel_rfl) ?_ _
        go_wp2_with fail
        refine ⟨⟨i + 1, A19, c19, hs' ++ [(some ⟨g10, 0, none⟩, c10)], by omega, by go_num, ?_, ?_, ?_⟩, by simp [intOf]; omega⟩
        · exact (HO.out.push HLX.out (HB10.out.alloc HB10.out.size _) (own_base (own_below HO10.out ((Below.refl _ _).alloc (Nat.le_refl _) _) (Nat.le_refl _)) HZR.out) HG19.out HO19.out).set (by show w.heap.size + 1 + 1 < w.heap.size + 3; omega) _
        · exact setCell_block ((HB19.out.block (w.heap.size + 1 + 1) (by omega)).trans HYB.out) 1 _
        · exact (HBR.out.trans (HB19.out.mono (by omega))).setCell (by show w.heap.size + 2 ≤ w.heap.size + 1 + 1; omega) _
    · obtain rfl : i = ls.length := by omega
      have ho := HO.out
      rw [List.take_of_length_le (Nat.le_refl _)] at ho
      have HOW := hide ho
      have hx5 : wr.heap[w.heap.size + 1]? = some (.cells #[.int .i64 0, .slice none 0 0] 24 (0, 0)) := (HBR.out.block _ (by omega)).trans HX1.out.2.1
      have e0 : wr.cell? ⟨w.heap.size + 1, 0, none⟩ = some (.int .i64 0) := cell_of_row wr (w.heap.size + 1) 0 _ _ (0, 0) hx5
      have e1 : wr.cell? ⟨w.heap.size + 1, 1, none⟩ = some (.slice none 0 0) := cell_of_row wr (w.heap.size + 1) 1 _ _ (0, 0) hx5
      have e2 : wr.cell? ⟨w.heap.size + 1 + 1, 0, none⟩ = some (.int .i64 n) := cell_of_row wr (w.heap.size + 1 + 1) 0 _ _ (0, 0) HYB.out
      have g0 : ∀ i, wr.frozen? ⟨w.heap.size + 1, i, none⟩ = false := fun i => by simp [World.frozen?, hx5]
      clear ho hx5
      go_wp2_with fail
      refine bodyPost_ret (v := instV n A' ls.length c') (by simp [results, Tryd.results9, go_sem, e0, e1]) rfl ?_
      refine ⟨A', c', hs', rfl, ?_, ?_⟩
      · have h3 := (HOW.out.set (p := ⟨w.heap.size + 1, 0, none⟩) (by show w.heap.size + 1 < _; omega) (.int .i64 n)).set (p := ⟨w.heap.size + 1, 1, none⟩) (by show w.heap.size + 1 < _; omega) (.slice A' ls.length c')
        exact ⟨h3.len, own_base h3.hdr (by omega), fun i a l ha hl => own_base (h3.row i a l ha hl) (by omega)⟩
      · exact (HBW.out.setCell (by show w.heap.size ≤ w.heap.size + 1; omega) _).setCell (by show w.heap.size ≤ w.heap.size + 1; omega) _
end Go.Proofs.YtinkieogcpidkaaDoor
