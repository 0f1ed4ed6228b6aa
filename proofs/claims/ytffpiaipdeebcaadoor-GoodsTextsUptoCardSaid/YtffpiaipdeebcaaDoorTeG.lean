/- The walk of goods.Parse of any text (below 4294967281 bytes). -/
import Derived.Test.YtffpiaipdeebcaaDoorTeQ
import Derived.Test.YtffpiaipdeebcaaDoorLay7b
import Derived.Test.YtffpiaipdeebcaaDoorPz
namespace Go.Proofs.YtffpiaipdeebcaaDoor
open Go.RowKit Go.Maps Go.Shelf
open Go.ChangeMaps Go.WideMaps

/-- The library's two errors: each variable holds some error. -/
def ErrW (w : World) : Prop := (∃ te pe, w.cell? ⟨1, 0, none⟩ = some (.iface te pe)) ∧ ∃ te pe, w.cell? ⟨2, 0, none⟩ = some (.iface te pe)
theorem ErrW.below {w w' : World} (h : ErrW w) (hb : Below w.heap.size w w') : ErrW w' := by
  obtain ⟨⟨t1, p1, h1⟩, ⟨t2, p2, h2⟩⟩ := h
  exact ⟨⟨t1, p1, (hb.cell (World.block_lt_of_cell? w _ h1)).trans h1⟩, ⟨t2, p2, (hb.cell (World.block_lt_of_cell? w _ h2)).trans h2⟩⟩
/-- What strconv.Atoi answers to a part of a text: a good and no error; a number that is no good; an error. -/
theorem atoi_part (p : ByteArray) (hp : p.size ≤ 281474976710656) (w : World) (hE : ErrW w) :
    (∃ g : Nat, partG p.data.toList = some g ∧ g < 32 ∧ Calls Tryd.prog 47 #[.string p] w (ValPost (.tuple #[.int .i64 (g : Int), .nilIface]) w)) ∨
    (∃ v : Int, partG p.data.toList = none ∧ (v < 0 ∨ 32 ≤ v) ∧ Calls Tryd.prog 47 #[.string p] w (ValPost (.tuple #[.int .i64 v, .nilIface]) w)) ∨
    (∃ (v : Int) (te : TypeId), partG p.data.toList = none ∧ Calls Tryd.prog 47 #[.string p] w (fun e w' => ∃ pe, e = .returned (.tuple #[.int .i64 v, .iface te pe]) ∧ Below w.heap.size w w')) := by
  have hbw : ∀ W : World, ((W = w) ∨ ∃ t, W = Go.Lib.bytesWorld w 5 t) → Below w.heap.size w W := by
    rintro W (rfl | ⟨t, rfl⟩)
    · exact Below.refl _ _
    · exact Go.Joins.below_bytesWorld w.heap.size w _ t (Nat.le_refl _)
  obtain ⟨⟨t1, p1, h1⟩, ⟨t2, p2, h2⟩⟩ := hE
  cases ha : Lib.atoiAll p.data.toList
  · rename_i v
    by_cases hv : 0 ≤ v ∧ v < 32
    · refine .inl ⟨v.toNat, by unfold partG; rw [ha]; simp only; rw [if_pos hv], by omega, (shelf_strconv_Atoi_ok p (by omega) v ha w).mono ?_⟩
      rintro e w' ⟨rfl, hw⟩
      exact ⟨by rw [Int.toNat_of_nonneg hv.1], hbw w' hw⟩
    · refine .inr (.inl ⟨v, by unfold partG; rw [ha]; simp only; rw [if_neg hv], by omega, (shelf_strconv_Atoi_ok p (by omega) v ha w).mono ?_⟩)
      rintro e w' ⟨rfl, hw⟩
      exact ⟨rfl, hbw w' hw⟩
  · have h := shelf_strconv_Atoi_syntax p hp (ha.trans (by decide +kernel)) _ w h1 (.inr ⟨_, _, rfl⟩)
    exact .inr (.inr ⟨_, _, by unfold partG; rw [ha], h.mono (fun e w' ⟨N, he, _, _, hb⟩ => ⟨_, he, hb⟩)⟩)
  · have h := shelf_strconv_Atoi_range p hp ha _ w h2 (.inr ⟨_, _, rfl⟩)
    exact .inr (.inr ⟨_, _, by unfold partG; rw [ha], h.mono (fun e w' ⟨N, he, _, _, hb⟩ => ⟨_, he, hb⟩)⟩)
theorem part_size : ∀ (k : Nat) (s p : ByteArray), p ∈ Lib.splitB ⟨#[32]⟩ 0 k s → p.size ≤ s.size
  | 0, s, p, h => by
    rw [Lib.splitB_zero] at h
    simp at h
    subst h
    exact Nat.le_refl _
  | k + 1, s, p, h => by
    unfold Lib.splitB at h
    split at h
    · simp at h
      subst h
      exact Nat.le_refl _
    · rcases List.mem_cons.1 h with rfl | h
      · rw [ByteArray.size_extract]; omega
      · have := part_size k _ p h
        rw [ByteArray.size_extract] at this
        omega
set_option maxRecDepth 100000 in
set_option maxHeartbeats 4000000 in
theorem parse_any (t : ByteArray) (ht : t.size < 4294967281) (w : World) (hT : TabW w) (hM : MlW w) (hE : ErrW w) : Calls Tryd.prog 24 #[.string t] w (ValPost (.tuple #[.int .u32 ((parseG t).1 : Nat), .int .i64 (parseG t).2]) w) := by
  have HT := hide hT
  have HE := hide hE
  obtain ⟨m, hm⟩ := hM
  have HS := hide (shelf_strings_Split t ⟨#[32]⟩ m w ht hm (by decide))
  have hpl := Lib.splitB_all ⟨#[32]⟩ (by decide) 0 (Lib.countB t ⟨#[32]⟩) t rfl
  have hps := part_size (Lib.countB t ⟨#[32]⟩) t
  have hout : outG t.data.toList = ((Lib.splitB ⟨#[32]⟩ 0 (Lib.countB t ⟨#[32]⟩) t).map (·.data.toList)).foldl orP 0 := by
    rw [Lib.splitB_data]
    rfl
  have hcl := Lib.countB_le ⟨#[32]⟩ (by decide) t.size t (Nat.le_refl _)
  obtain ⟨ps, hpsq⟩ : ∃ ps, Lib.splitB ⟨#[32]⟩ 0 (Lib.countB t ⟨#[32]⟩) t = ps := ⟨_, rfl⟩
  rw [hpsq] at HS hpl hps hout
  have hN : ps.length ≤ 4294967281 := by omega
  rw [← hpl] at HS
  have HPS := hide (fun p (hp : p ∈ ps) => (hps p hp : p.size ≤ t.size))
  have HPG : Hid (parseG t = if textG (outG t.data.toList) = t then (outG t.data.toList, 0) else (0, 171)) := hide rfl
  have HLT := hide (outG_lt t.data.toList)
  obtain ⟨r, hr⟩ : ∃ r, parseG t = r := ⟨_, rfl⟩
  rw [hr] at HPG ⊢
  rw [hout] at HPG HLT
  have HOR := hide (fun (acc : Nat) (h : acc < 4294967296) (l : List UInt8) => orP_lt h l)
  clear hT hE hm hpl hps hout hcl hpsq hr
  have HB0 : Hid (Below w.heap.size w (w.alloc (.cells (ps.map Value.string).toArray 9))) := hide ((Below.refl _ _).alloc (Nat.le_refl _) _)
  have HR0 : Hid ((w.alloc (.cells (ps.map Value.string).toArray 9)).heap[w.heap.size]? = some (.cells (ps.map Value.string).toArray 9 (0, 0))) := hide (heap_alloc_new w _)
  go_enter Tryd.func24, Tryd.ntmps24
  go_upto_region 3 with (go_at_call 46; refine (HS.out).mono ?_; rintro e w1 ⟨rfl, rfl⟩)
  generalize w.alloc (.cells (ps.map Value.string).toArray 9) = w1 at *
  go_loopw [4, 12] (fun sv kv wr => ∃ (k : Nat) (acc : Nat), k ≤ ps.length ∧ sv = .int .u32 (acc : Int) ∧ acc < 4294967296 ∧ acc = ((ps.take k).map (·.data.toList)).foldl orP 0 ∧ kv = .int .i64 k ∧ Below w1.heap.size w1 wr) (fun _ kv _ => ps.length - (intOf kv).toNat)
  case atStart => exact ⟨0, 0, Nat.zero_le _, rfl, by decide, rfl, rfl, Below.refl _ _⟩
  case round =>
    obtain ⟨k, acc, hk, rfl, hacc, hval, rfl, hb⟩ := hrel
    have HV := hide hval
    have HB := hide hb
    have HBW := hide (HB0.out.trans (hb.mono HB0.out.size))
    clear hval hb
    by_cases hlt : k < ps.length
    · obtain ⟨p, hp⟩ : ∃ p, ps[k]? = some p := ⟨ps[k], List.getElem?_eq_getElem hlt⟩
      have d0 : wr.cell? ⟨w.heap.size, k, none⟩ = some (.string p) := (cell_of_row wr w.heap.size k _ _ (0, 0) ((HB.out.block _ (lt_of_block HR0.out)).trans HR0.out)).trans (by simp [hp])
      have hki : (k : Int) < (ps.length : Int) := by omega
      have hat := atoi_part p (by have := HPS.out p (List.mem_of_getElem? hp); omega) wr (HE.out.below HBW.out)
      have HNX : Hid (((ps.take (k + 1)).map (·.data.toList)).foldl orP 0 = orP acc p.data.toList) := hide (by rw [List.take_add_one, hp, Option.toList_some, List.map_append, List.foldl_append, ← HV.out]; rfl)
      have HKL := hide hlt
      have hwk : IntKind.i64.wrap ((k : Int) + 1) = (k : Int) + 1 := Go.IntWalk.i64_in _ (by omega)
      clear hp
      rcases hat with ⟨g, hpg, hg, hc⟩ | ⟨v, hpn, hv, hc⟩ | ⟨v, te, hpn, hc⟩
      · have HC := hide hc
        unfold ValPost at HC
        have HOS : Hid (orP acc p.data.toList = acc ||| 2 ^ g) := hide (by unfold orP; rw [hpg])
        have HOL := hide (HOR.out acc hacc p.data.toList)
        obtain ⟨q2, hq2⟩ : ∃ q2 : Nat, 2 ^ g = q2 := ⟨_, rfl⟩
        have hq3 : q2 < 4294967296 := by
          have h : 2 ^ g < 2 ^ 32 := Nat.pow_lt_pow_right (by omega) hg
          rw [← hq2]
          exact h
        have hq4 : ((2 : Int) ^ g) = (q2 : Int) := by rw [← hq2]; push_cast; rfl
        have hsh : IntKind.u32.wrap ((2 : Int) ^ g) = (q2 : Int) := by rw [hq4]; exact Go.IntWalk.u32_in _ (by omega)
        rw [hq2] at HOS
        rw [HOS.out] at HNX HOL
        have hor := u32_or_nat acc q2 hacc hq3
        have hg0 : (0 : Int) ≤ (g : Int) := by omega
        have hg1 : (g : Int) < 32 := by omega
        clear hc hpg hq2 hq3 hq4
        go_wp2_with (go_at_call 47; refine (HC.out).mono ?_; rintro e w2 ⟨rfl, hb2⟩; have HB2 := hide (HB.out.trans (hb2.mono HB.out.size)); clear hb2)
        go_roundw
        case rel => exact ⟨k + 1, acc ||| q2, HKL.out, by first | rfl | go_num, HOL.out, HNX.out.symm, by go_num, HB2.out⟩
        case measure => have := HKL.out; simp [intOf]; omega
      · have HC := hide hc
        unfold ValPost at HC
        have HOS : Hid (orP acc p.data.toList = acc) := hide (by unfold orP; rw [hpn])
        rw [HOS.out] at HNX
        clear hc hpn
        by_cases h0 : v < 0
        · have d1 : decide ((0 : Int) ≤ v) = false := decide_eq_false (by omega)
          clear h0 hv
          go_wp2_with (go_at_call 47; refine (HC.out).mono ?_; rintro e w2 ⟨rfl, hb2⟩; have HB2 := hide (HB.out.trans (hb2.mono HB.out.size)); clear hb2)
          go_roundw
          case rel => exact ⟨k + 1, acc, HKL.out, rfl, hacc, HNX.out.symm, by go_num, HB2.out⟩
          case measure => have := HKL.out; simp [intOf]; omega
        · have d1 : decide ((0 : Int) ≤ v) = true := decide_eq_true (by omega)
          have d2 : decide (v < 32) = false := decide_eq_false (by omega)
          clear h0 hv
          go_wp2_with (go_at_call 47; refine (HC.out).mono ?_; rintro e w2 ⟨rfl, hb2⟩; have HB2 := hide (HB.out.trans (hb2.mono HB.out.size)); clear hb2)
          go_roundw
          case rel => exact ⟨k + 1, acc, HKL.out, rfl, hacc, HNX.out.symm, by go_num, HB2.out⟩
          case measure => have := HKL.out; simp [intOf]; omega
      · have HC := hide hc
        have HOS : Hid (orP acc p.data.toList = acc) := hide (by unfold orP; rw [hpn])
        rw [HOS.out] at HNX
        clear hc hpn
        go_wp2_with (go_at_call 47; refine (HC.out).mono ?_; rintro e w2 ⟨pe, rfl, hb2⟩; have HB2 := hide (HB.out.trans (hb2.mono HB.out.size)); clear hb2)
        go_roundw
        case rel => exact ⟨k + 1, acc, HKL.out, rfl, hacc, HNX.out.symm, by go_num, HB2.out⟩
        case measure => have := HKL.out; simp [intOf]; omega
    · obtain rfl : k = ps.length := by omega
      have HVE : Hid (acc = (ps.map (·.data.toList)).foldl orP 0) := hide (by have := HV.out; rwa [List.take_of_length_le (Nat.le_refl _)] at this)
      have HTX := hide (text_any acc hacc wr (HT.out.below HBW.out))
      unfold ValPost at HTX
      rw [← HVE.out] at HPG
      clear HV HVE
      by_cases he : textG acc = t
      · subst he
        have HR : Hid (r = (acc, 0)) := hide (by rw [HPG.out, if_pos rfl])
        clear HPG
        go_wp2_with (go_at_call 23; refine (HTX.out).mono ?_; rintro e w2 ⟨rfl, hb2⟩; have HB2 := hide (HBW.out.trans (hb2.mono HBW.out.size)); clear hb2)
        go_ret2
        exact ⟨by rw [HR.out]; rfl, HB2.out⟩
      · have HR : Hid (r = (0, 171)) := hide (by rw [HPG.out, if_neg he])
        have hne : ((textG acc).toList == t.toList) = false := by
          rw [ByteArray.toList_eq, ByteArray.toList_eq, beq_eq_false_iff_ne]
          exact fun e => he (ByteArray.ext (Array.ext' e))
        clear HPG
        go_wp2_with (go_at_call 23; refine (HTX.out).mono ?_; rintro e w2 ⟨rfl, hb2⟩; have HB2 := hide (HBW.out.trans (hb2.mono HBW.out.size)); clear hb2)
        go_ret2
        exact ⟨by rw [HR.out]; rfl, HB2.out⟩
end Go.Proofs.YtffpiaipdeebcaaDoor
