/- The walk of goods.Parse at the chapter's text. -/
import Derived.Test.YtffpiaipdeebcaaDoorTx
import Derived.Lib.SmallJoins
namespace Go.Proofs.YtffpiaipdeebcaaDoor
open Go.RowKit Go.Maps Go.Shelf
open Go.ChangeMaps Go.WideMaps

/-- The library's number of bytes up to which it searches otherwise: some number. -/
def MlW (w : World) : Prop := ∃ m, w.cell? ⟨4, 0, none⟩ = some (.int .i64 m)
theorem MlW.below {w w' : World} (h : MlW w) (hb : Below w.heap.size w w') : MlW w' := by
  obtain ⟨m, hm⟩ := h
  exact ⟨m, (hb.cell (World.block_lt_of_cell? w _ hm)).trans hm⟩
abbrev t03 : ByteArray := ⟨#[48, 32, 51]⟩
theorem split03 : Lib.splitB ⟨#[32]⟩ 0 (Lib.countB t03 ⟨#[32]⟩) t03 = [⟨#[48]⟩, ⟨#[51]⟩] := by decide +kernel
theorem count03 : Lib.countB t03 ⟨#[32]⟩ = 1 := by decide +kernel
theorem text9 : textG 9 = t03 := by
  unfold textG
  rw [if_neg (by decide)]
  have h : eachL 9 = [0, 3] := by decide +kernel
  have d0 : numL 0 = ⟨#[48]⟩ := by unfold numL; rw [Lib.decDigits, dif_pos (by decide)]; rfl
  have d3 : numL 3 = ⟨#[51]⟩ := by unfold numL; rw [Lib.decDigits, dif_pos (by decide)]; rfl
  rw [h]
  simp only [List.map_cons, List.map_nil, d0, d3]
  rfl
/-- What lies at a place of the text's parts, its number, the set so far. -/
def part03 (k : Nat) : ByteArray := if k = 0 then ⟨#[48]⟩ else ⟨#[51]⟩
def num03 (k : Nat) : Nat := if k = 0 then 0 else 3
def set03 (k : Nat) : Nat := if k = 0 then 0 else if k = 1 then 1 else 9
theorem atoi03 (k : Nat) : Lib.atoi (part03 k).data.toList = some ((num03 k : Nat) : Int) := by
  unfold part03 num03
  split <;> decide +kernel
set_option maxRecDepth 100000 in
set_option maxHeartbeats 4000000 in
theorem parse03_any (w : World) (hT : TabW w) (hM : MlW w) : Calls Tryd.prog 24 #[.string t03] w (ValPost (.tuple #[.int .u32 9, .int .i64 0]) w) := by
  have HT := hide hT
  obtain ⟨m, hm⟩ := hM
  have HS := hide (shelf_strings_Split t03 ⟨#[32]⟩ m w (by decide) hm (by decide))
  rw [count03] at HS
  have e2 : Lib.splitB ⟨#[32]⟩ 0 1 t03 = [⟨#[48]⟩, ⟨#[51]⟩] := by rw [← count03]; exact split03
  rw [e2] at HS
  have HAT := hide (fun k W => shelf_strconv_Atoi (part03 k) (num03 k) (by unfold part03; split <;> decide) (atoi03 k) W)
  have HTX := hide (fun W (h : TabW W) => text_any 9 (by omega) W h)
  rw [text9] at HTX
  clear hT e2
  go_enter Tryd.func24, Tryd.ntmps24
  go_upto_region 3 with (go_at_call 46; refine (HS.out).mono ?_; rintro e w1 ⟨rfl, rfl⟩)
  have HR : Hid ((w.alloc (.cells #[.string ⟨#[48]⟩, .string ⟨#[51]⟩] 9)).heap[w.heap.size]? = some (.cells #[.string ⟨#[48]⟩, .string ⟨#[51]⟩] 9 (0, 0))) := hide (heap_alloc_new w _)
  have HB0 : Hid (Below w.heap.size w (w.alloc (.cells #[.string ⟨#[48]⟩, .string ⟨#[51]⟩] 9))) := hide ((Below.refl _ _).alloc (Nat.le_refl _) _)
  generalize w.alloc (.cells #[.string ⟨#[48]⟩, .string ⟨#[51]⟩] 9) = w1 at *
  go_loopw [4, 12] (fun sv kv wr => ∃ k : Nat, k ≤ 2 ∧ sv = .int .u32 (set03 k : Nat) ∧ kv = .int .i64 k ∧ Below w1.heap.size w1 wr) (fun _ kv _ => 2 - (intOf kv).toNat)
  case atStart => exact ⟨0, by omega, rfl, rfl, Below.refl _ _⟩
  case round =>
    obtain ⟨k, hk, rfl, rfl, hb⟩ := hrel
    have HB := hide hb
    clear hb
    have hk3 : k = 0 ∨ k = 1 ∨ k = 2 := by omega
    rcases hk3 with rfl | rfl | rfl
    · have d0 := cell_of_row wr w.heap.size 0 _ _ (0, 0) ((HB.out.block _ (lt_of_block HR.out)).trans HR.out)
      simp at d0
      have HA := hide (HAT.out 0 wr)
      rw [show part03 0 = ⟨#[48]⟩ from rfl, show num03 0 = 0 from rfl] at HA
      have hor : bits .or .u32 0 1 = 1 := u32_or_nat 0 1 (by decide) (by decide)
      go_wp2_with (go_at_call 47; (refine (HA.out).mono ?_; rintro e w2 ⟨rfl, tb, rfl⟩; have HB2 : Hid (Below w1.heap.size w1 (Go.Lib.bytesWorld wr 5 tb)) := hide (HB.out.trans ((Go.Joins.below_bytesWorld wr.heap.size wr _ tb (Nat.le_refl _)).mono HB.out.size))))
      go_roundw
      case rel => exact ⟨1, by omega, by first | rfl | go_num, by first | rfl | go_num, HB2.out⟩
      case measure => simp [intOf]
    · have d0 := cell_of_row wr w.heap.size 1 _ _ (0, 0) ((HB.out.block _ (lt_of_block HR.out)).trans HR.out)
      simp at d0
      have HA := hide (HAT.out 1 wr)
      rw [show part03 1 = ⟨#[51]⟩ from rfl, show num03 1 = 3 from rfl] at HA
      have hor : bits .or .u32 1 8 = 9 := u32_or_nat 1 8 (by decide) (by decide)
      go_wp2_with (go_at_call 47; (refine (HA.out).mono ?_; rintro e w2 ⟨rfl, tb, rfl⟩; have HB2 : Hid (Below w1.heap.size w1 (Go.Lib.bytesWorld wr 5 tb)) := hide (HB.out.trans ((Go.Joins.below_bytesWorld wr.heap.size wr _ tb (Nat.le_refl _)).mono HB.out.size))))
      go_roundw
      case rel => exact ⟨2, by omega, by first | rfl | go_num, by first | rfl | go_num, HB2.out⟩
      case measure => simp [intOf]
    · have HBW := hide (HB0.out.trans (HB.out.mono HB0.out.size))
      have HX := hide (HTX.out wr (HT.out.below HBW.out))
      go_wp2_with (go_at_call 23; refine (HX.out).mono ?_; rintro e w2 ⟨rfl, hb2⟩; have HB2 := hide (HBW.out.trans (hb2.mono HBW.out.size)); clear hb2)
      go_ret2
      exact ⟨rfl, HB2.out⟩
end Go.Proofs.YtffpiaipdeebcaaDoor
