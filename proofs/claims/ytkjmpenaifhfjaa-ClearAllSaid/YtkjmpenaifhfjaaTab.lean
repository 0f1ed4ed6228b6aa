/- The walk of the reference's table of greatest worths. -/
import Derived.Test.YtkjmpenaifhfjaaRef08I
import Derived.Test.YtkjmpenaifhfjaaBestS
import Derived.Test.YtkjmpenaifhfjaaFirst
import Derived.Deep.OwnRows
namespace Go.Proofs.Ytkjmpenaifhfjaa
open Go.RowKit

/-- bits at int64, both sides not below 0 -/
theorem ofInt_i64n (a : Nat) (ha : a < 9223372036854775808) : (BitVec.ofInt 64 (a : Int)).toNat = a := by
  rw [BitVec.ofInt_natCast, BitVec.toNat_ofNat]; exact Nat.mod_eq_of_lt (by omega)
theorem i64_and_n (a b : Nat) (ha : a < 9223372036854775808) (hb : b < 9223372036854775808) : bits .and .i64 (a : Int) (b : Int) = ((a &&& b : Nat) : Int) := by
  have hx : a &&& b < 2 ^ 63 := Nat.and_lt_two_pow _ (by omega)
  show IntKind.i64.wrap ((BitVec.ofInt 64 (a : Int) &&& BitVec.ofInt 64 (b : Int)).toNat : Int) = _
  rw [BitVec.toNat_and, ofInt_i64n a ha, ofInt_i64n b hb, IntKind.wrap_i64]
  omega

def TabIs (w : World) (base H sets : Nat) (ls : List (List Offer)) : Prop :=
  base ≤ H ∧ H < w.heap.size ∧ ∀ k, k ≤ ls.length → ∃ g, base ≤ g ∧ g < w.heap.size ∧ w.cell? ⟨H, k, none⟩ = some (.slice (some ⟨g, 0, none⟩) sets sets) ∧ ∀ f, f < sets → w.cell? ⟨g, f, none⟩ = some (.int .i64 (bestW (ls.drop k) f))
def TabPost (n : Int) (ls : List (List Offer)) (w : World) (e : Ending) (w' : World) : Prop :=
  ∃ H, e = .returned (.slice (some ⟨H, 0, none⟩) (ls.length + 1) (ls.length + 1)) ∧ TabIs w' w.heap.size H (2 ^ n.toNat) ls ∧ Below w.heap.size w w'

/-- The table as far as it is filled: the rows from lo on. -/
structure TabRel (w : World) (H sets : Nat) (n : Int) (A : Option Addr) (c : Nat) (ls : List (List Offer)) (lo : Nat) (wr : World) : Prop where
  bel : Below w.heap.size w wr
  box : wr.heap[w.heap.size]? = some (.cells #[.int .i64 n, .slice A ls.length c] 24 (0, 0))
  big : w.heap.size < H
  tab : ∃ hd, wr.heap[H]? = some (.cells hd 73 (0, 0)) ∧ hd.size = ls.length + 1 ∧ ∀ k, lo ≤ k → k ≤ ls.length → ∃ (g : Nat) (cur : Array Value), hd[k]? = some (.slice (some ⟨g, 0, none⟩) sets sets) ∧ w.heap.size ≤ g ∧
    wr.heap[g]? = some (.cells cur 2 (0, 0)) ∧ cur.size = sets ∧ ∀ f, f < sets → cur[f]? = some (.int .i64 (bestW (ls.drop k) f))
/-- A row under way: its first cells. -/
def RowTo (g sets k : Nat) (ls : List (List Offer)) (f : Nat) (w : World) : Prop :=
  ∃ cur, w.heap[g]? = some (.cells cur 2 (0, 0)) ∧ cur.size = sets ∧ ∀ j, j < f → cur[j]? = some (.int .i64 (bestW (ls.drop k) j))
section
variable {w wr w2 : World} {H sets : Nat} {n : Int} {A : Option Addr} {c : Nat} {ls : List (List Offer)} {lo : Nat}
theorem TabRel.kept (h : TabRel w H sets n A c ls lo wr) {row : Option Nat} (hg : wr.grownBy w2 row) (hr : ∀ j, row = some j → wr.heap.size ≤ j) : TabRel w H sets n A c ls lo w2 := by
  have key : ∀ {b : Nat} {o : Obj}, wr.heap[b]? = some o → w2.heap[b]? = some o := fun {b o} hb => (hg.block b (by have := Array.getElem?_eq_some_iff.1 hb; exact this.1) (fun e => by have := hr b e.symm; have := (Array.getElem?_eq_some_iff.1 hb).1; omega)).trans hb
  obtain ⟨hd, h1, h2, h3⟩ := h.tab
  exact ⟨h.bel.grown hg h.bel.size (fun j hj => by have := hr j hj; have := h.bel.size; omega), key h.box, h.big, hd, key h1, h2, fun k hk hk2 => by
    obtain ⟨g, cur, a1, a2, a3, a4, a5⟩ := h3 k hk hk2
    exact ⟨g, cur, a1, a2, key a3, a4, a5⟩⟩
/-- The row of k is filled: it is in the table. -/
theorem TabRel.fill {k g : Nat} {w1 : World} (h : TabRel w H sets n A c ls (k + 1) wr) (hk : k ≤ ls.length) (hg : wr.heap.size ≤ g)
    (h1 : w1.heap = ((wr.setCell ⟨H, k, none⟩ (.slice (some ⟨g, 0, none⟩) sets sets)).alloc (.cells (madeCells #[.int .i64 0] sets) 2)).heap) (hbel1 : Below w.heap.size w w1) (hgrow : w1.grownBy w2 (some g)) (hrow : RowTo g sets k ls sets w2) : TabRel w H sets n A c ls k w2 := by
  obtain ⟨hd, a1, a2, a3⟩ := h.tab
  have hH := lt_of_block a1
  have hb := lt_of_block h.box
  have hbig := h.big
  have hw := h.bel.size
  have hsz : (wr.setCell ⟨H, k, none⟩ (.slice (some ⟨g, 0, none⟩) sets sets)).heap.size = wr.heap.size := by simp [World.setCell]
  have e1 : w1.heap[H]? = some (.cells (hd.setIfInBounds k (.slice (some ⟨g, 0, none⟩) sets sets)) 73 (0, 0)) := by
    rw [h1, Below.heap_alloc _ _ _ (by rw [hsz]; exact hH)]
    exact setCell_block a1 k _
  have far : ∀ {b : Nat} {o : Obj}, b < wr.heap.size → b ≠ H → wr.heap[b]? = some o → w1.heap[b]? = some o := by
    intro b o hlt hne hbo
    rw [h1, Below.heap_alloc _ _ _ (by rw [hsz]; exact hlt), Below.heap_setCell _ ⟨H, k, none⟩ _ _ (fun e => hne e)]
    exact hbo
  have on : ∀ {b : Nat} {o : Obj}, b < wr.heap.size → w1.heap[b]? = some o → w2.heap[b]? = some o := by
    intro b o hlt hbo
    exact (hgrow.block b (lt_of_block hbo) (fun e => by have := Option.some.inj e; omega)).trans hbo
  obtain ⟨cur, b1, b2, b3⟩ := hrow
  refine ⟨hbel1.grown hgrow hbel1.size (fun j hj => by have := Option.some.inj hj; omega), on hb (far hb (by omega) h.box), hbig, _, on hH e1, by simp [a2], fun j hj hj2 => ?_⟩
  by_cases e : j = k
  · subst e
    exact ⟨g, cur, by rw [Array.getElem?_setIfInBounds_self_of_lt (by omega)], by omega, b1, b2, b3⟩
  · obtain ⟨g', cur', c1, c2, c3, c4, c5⟩ := a3 j (by omega) hj2
    have hg' := lt_of_block c3
    have hgH : g' ≠ H := by
      rintro rfl
      rw [a1] at c3
      injection c3 with c3
      injection c3 with _ c3 _
      exact absurd c3 (by decide)
    refine ⟨g', cur', ?_, c2, on hg' (far hg' hgH c3), c4, c5⟩
    rw [Array.getElem?_setIfInBounds_ne (by omega)]
    exact c1
end
theorem madeCells_at (z : Value) (n i : Nat) (h : i < n) : (madeCells #[z] n)[i]? = some z := by simp [madeCells, h, Nat.mod_one]

theorem info64 : (Try.prog.info? 2).map (fun i => (i.zero, i.size, i.bytes)) = some (some (.int .i64 0), 1, 8) := by kernel_rfl
theorem info64s : (Try.prog.info? 73).map (fun i => (i.zero, i.size, i.bytes)) = some (some (.slice none 0 0), 1, 24) := by kernel_rfl

set_option maxRecDepth 100000 in
set_option maxHeartbeats 8000000 in
theorem table_any (nn : Nat) (A : Option Addr) (c : Nat) (hs : List Hdr) (ls : List (List Offer)) (w : World) (h : Buys w w.heap.size A hs ls) (hI : GoodI (nn : Int) ls) :
    Calls Try.prog 33 #[instV (nn : Int) A ls.length c] w (TabPost (nn : Int) ls w) := by
  have hn : nn ≤ 10 := by have := hI.hi; omega
  have hp2 := pow_small (nn : Int) hI.hi
  rw [Int.toNat_natCast] at hp2
  have HB : Hid (Below w.heap.size w (w.alloc (.cells #[.int .i64 (nn : Int), .slice A ls.length c] 24))) := hide ((Below.refl _ _).alloc (Nat.le_refl _) _)
  have HX : Hid ((w.alloc (.cells #[.int .i64 (nn : Int), .slice A ls.length c] 24)).heap[w.heap.size]? = some (.cells #[.int .i64 (nn : Int), .slice A ls.length c] 24 (0, 0))) := hide (heap_alloc_new w _)
  have HA := hide h
  have HIN := hide hI
  have hN : ls.length ≤ 32 := hI.few
  have hmk1 := run_make_row' (P := Try.prog) 71 73 (.slice none 0 0) 24 Try.underlying71 info64s rfl .i64 .i64 (ls.length + 1) (by omega) (by omega)
  rw [show ((ls.length + 1 : Nat) : Int) = (ls.length : Int) + 1 from by omega] at hmk1
  clear h hI
  simp only [instV]
  go_enter Try.func33, Try.ntmps33
  go_wp2_with fail
  generalize w.alloc (.cells #[.int .i64 (nn : Int), .slice A ls.length c] 24) = w1 at *
  have x0 : w1.cell? ⟨w.heap.size, 0, none⟩ = some (.int .i64 (nn : Int)) := cell_of_row w1 w.heap.size 0 _ _ (0, 0) HX.out
  have x1 : w1.cell? ⟨w.heap.size, 1, none⟩ = some (.slice A ls.length c) := cell_of_row w1 w.heap.size 1 _ _ (0, 0) HX.out
  go_loopw [3, 4] (fun sv iv wr => ∃ i s : Nat, i ≤ nn ∧ s = 2 ^ i ∧ iv = .int .i64 i ∧ sv = .int .i64 s ∧ w1 = wr) (fun _ iv _ => nn - (intOf iv).toNat)
  case atStart => exact ⟨0, 1, Nat.zero_le _, rfl, rfl, rfl, by trivial⟩
  case round =>
    obtain ⟨i, s, hi, hs, rfl, rfl, rfl⟩ := hrel
    have HS := hide hs
    have hs1 : s ≤ 1024 := by rw [hs]; exact Nat.le_trans (Nat.pow_le_pow_right (by omega) hi) hp2
    clear hs
    by_cases hlt : i < nn
    · go_wp2_with fail
      go_roundw
      case rel => exact ⟨i + 1, 2 * s, by omega, by rw [HS.out, Nat.pow_succ]; omega, by go_num, by go_num, by trivial⟩
      case measure => simp [intOf]; omega
    · obtain rfl : i = nn := by omega
      have hmk2 := run_make_row' (P := Try.prog) 73 2 (.int .i64 0) 8 Try.underlying73 info64 rfl .i64 .i64 s (by omega) (by omega)
      have HX0 := hide x0
      go_wp2_with fail
      have HH : Hid ((w1.alloc (.cells (madeCells #[.slice none 0 0] (ls.length + 1)) 73)).heap[w1.heap.size]? = some (.cells (madeCells #[.slice none 0 0] (ls.length + 1)) 73 (0, 0))) := hide (heap_alloc_new w1 _)
      have hl1 := lt_of_block HX.out
      have HX2 : Hid ((w1.alloc (.cells (madeCells #[.slice none 0 0] (ls.length + 1)) 73)).heap[w.heap.size]? = some (.cells #[.int .i64 (i : Int), .slice A ls.length c] 24 (0, 0))) := hide ((Below.heap_alloc _ _ _ hl1).trans HX.out)
      have HB2 : Hid (Below w.heap.size w (w1.alloc (.cells (madeCells #[.slice none 0 0] (ls.length + 1)) 73))) := hide (HB.out.alloc HB.out.size _)
      obtain ⟨H, hH⟩ : ∃ H, H = w1.heap.size := ⟨_, rfl⟩
      rw [← hH] at HH
      rw [← hH]
      have hbig : w.heap.size < H := by omega
      clear x0 x1 HX0 hmk1 hH
      generalize w1.alloc (.cells (madeCells #[.slice none 0 0] (ls.length + 1)) 73) = w2 at *
      have hH2 := lt_of_block HH.out
      have hX2 := lt_of_block HX2.out
      have y1 : w2.cell? ⟨w.heap.size, 1, none⟩ = some (.slice A ls.length c) := cell_of_row w2 w.heap.size 1 _ _ (0, 0) HX2.out
      have y1' : ∀ ob, (w2.alloc ob).cell? ⟨w.heap.size, 1, none⟩ = some (.slice A ls.length c) := fun ob => (World.cell?_alloc_lt w2 ob ⟨w.heap.size, 1, none⟩ hX2).trans y1
      have z1 : w2.cell? ⟨H, ls.length, none⟩ = some (.slice none 0 0) := (cell_of_row w2 H ls.length _ _ (0, 0) HH.out).trans (madeCells_at _ _ _ (by omega))
      have z1' : ∀ ob, (w2.alloc ob).cell? ⟨H, ls.length, none⟩ = some (.slice none 0 0) := fun ob => (World.cell?_alloc_lt w2 ob ⟨H, ls.length, none⟩ hH2).trans z1
      have z2 : w2.frozen? ⟨H, ls.length, none⟩ = false := by simp [World.frozen?, HH.out]
      have z2' : ∀ ob, (w2.alloc ob).frozen? ⟨H, ls.length, none⟩ = false := fun ob => (World.frozen?_alloc_old _ _ ⟨H, ls.length, none⟩ (by show H ≠ w2.heap.size; omega)).trans z2
      have y3 : ∀ ob u, ((w2.setCell ⟨H, ls.length, none⟩ u).alloc ob).drew.cell? ⟨w.heap.size, 1, none⟩ = some (.slice A ls.length c) := fun ob u => (World.cell?_alloc_lt _ ob ⟨w.heap.size, 1, none⟩ (by simpa [World.setCell] using hX2)).trans ((World.cell?_setCell_other _ _ _ _ (fun e => by injection e; omega)).trans y1)
      have b1 : (ls.length : Int) < (ls.length : Int) + 1 := by omega
      have b2 : (0 : Int) ≤ (ls.length : Int) := by omega
      go_region_held3 (fun w' => w'.cell? ⟨w.heap.size, 1, none⟩ = some (.slice A ls.length c)) (first | exact y1 | exact y1' _ | exact y3 _ _ | go_keep) (fail)
      go_simp
      have hsz : (w2.setCell ⟨H, ls.length, none⟩ (.slice (some ⟨w2.heap.size, 0, none⟩) s s)).heap.size = w2.heap.size := by simp [World.setCell]
      have HG0 : Hid ((((w2.setCell ⟨H, ls.length, none⟩ (.slice (some ⟨w2.heap.size, 0, none⟩) s s)).alloc (.cells (madeCells #[.int .i64 0] s) 2)).drew).heap[w2.heap.size]? = some (.cells (madeCells #[.int .i64 0] s) 2 (0, 0))) := hide (by
        have := heap_alloc_new (w2.setCell ⟨H, ls.length, none⟩ (.slice (some ⟨w2.heap.size, 0, none⟩) s s)) (.cells (madeCells #[.int .i64 0] s) 2)
        rw [hsz] at this
        exact this)
      have HR0 : Hid (TabRel w H s (i : Int) A c ls (ls.length + 1) w2) := hide ⟨HB2.out, HX2.out, hbig, _, HH.out, size_madeCells _ _, fun k h1 h2 => by omega⟩
      have hbel3 : Below w.heap.size w (((w2.setCell ⟨H, ls.length, none⟩ (.slice (some ⟨w2.heap.size, 0, none⟩) s s)).alloc (.cells (madeCells #[.int .i64 0] s) 2)).drew) := ((HB2.out.setCell (by show w.heap.size ≤ H; omega) _).alloc (by rw [hsz]; have := HB2.out.size; exact this) _).drew
      have HR3 : Hid (TabRel w H s (i : Int) A c ls ls.length (((w2.setCell ⟨H, ls.length, none⟩ (.slice (some ⟨w2.heap.size, 0, none⟩) s s)).alloc (.cells (madeCells #[.int .i64 0] s) 2)).drew)) :=
        hide (HR0.out.fill (Nat.le_refl _) (Nat.le_refl _) (by rfl) hbel3 (World.grownBy.refl _ _) ⟨_, HG0.out, size_madeCells _ _, fun j hj => by rw [madeCells_at _ _ _ hj, List.drop_length]; rfl⟩)
      clear hsz HG0 HR0 hbel3 y1 y1' z1 z1' z2 z2' y3 HH HX2 HB2 hH2 hX2
      generalize (((w2.setCell ⟨H, ls.length, none⟩ (.slice (some ⟨w2.heap.size, 0, none⟩) s s)).alloc (.cells (madeCells #[.int .i64 0] s) 2)).drew) = w3 at *
      have hx3 := HR3.out.box
      have y1 : w3.cell? ⟨w.heap.size, 1, none⟩ = some (.slice A ls.length c) := cell_of_row w3 w.heap.size 1 _ _ (0, 0) hx3
      clear hx3
      go_wp2_with fail
      clear y1
      go_loopw [6] (fun kv wr => ∃ lo : Nat, lo ≤ ls.length ∧ kv = .int .i64 ((lo : Int) - 1) ∧ TabRel w H s (i : Int) A c ls lo wr) (fun kv _ => (intOf kv + 1).toNat)
      case atStart => exact ⟨ls.length, Nat.le_refl _, rfl, HR3.out⟩
      case round =>
        rename World => wo
        obtain ⟨lo, hlo, rfl, hr⟩ := hrel
        have HR := hide hr
        clear hr HR3
        obtain ⟨hd, hH, hdsz, hrows⟩ := HR.out.tab
        have hHlt := lt_of_block hH
        rcases Nat.eq_zero_or_pos lo with h0 | h0
        · subst h0
          go_wp2_with fail
          go_ret
          have hS := HS.out
          refine ⟨H, rfl, ⟨by omega, hHlt, fun k hk => ?_⟩, HR.out.bel⟩
          obtain ⟨g, cur, a1, a2, a3, a4, a5⟩ := hrows k (Nat.zero_le _) hk
          rw [Int.toNat_natCast, ← hS]
          exact ⟨g, a2, lt_of_block a3, (cell_of_row wo H k _ _ (0, 0) hH).trans a1, fun f hf => (cell_of_row wo g f _ _ (0, 0) a3).trans (a5 f hf)⟩
        · obtain ⟨k, rfl⟩ : ∃ k, lo = k + 1 := ⟨lo - 1, by omega⟩
          rw [show ((k + 1 : Nat) : Int) - 1 = (k : Int) from by omega]
          have z1 : wo.cell? ⟨H, k, none⟩ = some (hd[k]'(by omega)) := (cell_of_row wo H k _ _ (0, 0) hH).trans (Array.getElem?_eq_getElem _)
          have z1' : ∀ ob, (wo.alloc ob).cell? ⟨H, k, none⟩ = some (hd[k]'(by omega)) := fun ob => (World.cell?_alloc_lt wo ob ⟨H, k, none⟩ hHlt).trans z1
          have z2 : wo.frozen? ⟨H, k, none⟩ = false := by simp [World.frozen?, hH]
          have z2' : ∀ ob, (wo.alloc ob).frozen? ⟨H, k, none⟩ = false := fun ob => (World.frozen?_alloc_old _ _ ⟨H, k, none⟩ (by show H ≠ wo.heap.size; omega)).trans z2
          have HROWS := hide hrows
          have HHD := hide hH
          clear hrows hH
          generalize (hd[k]'(by omega)) = hk0 at *
          go_wp2_with fail
          have hbox := HR.out.box
          have hboxlt := lt_of_block hbox
          have hsz : (wo.setCell ⟨H, k, none⟩ (.slice (some ⟨wo.heap.size, 0, none⟩) s s)).heap.size = wo.heap.size := by simp [World.setCell]
          obtain ⟨w4, hw4⟩ : ∃ w4, w4 = (wo.setCell ⟨H, k, none⟩ (.slice (some ⟨wo.heap.size, 0, none⟩) s s)).alloc (.cells (madeCells #[.int .i64 0] s) 2) := ⟨_, rfl⟩
          rw [← hw4]
          obtain ⟨g1, cur1, a1, a2, a3, a4, a5⟩ := HROWS.out (k + 1) (Nat.le_refl _) hlo
          have hH4 : w4.heap[H]? = some (.cells (hd.setIfInBounds k (.slice (some ⟨wo.heap.size, 0, none⟩) s s)) 73 (0, 0)) := by
            rw [hw4, Below.heap_alloc _ _ _ (by rw [hsz]; exact hHlt)]
            exact setCell_block HHD.out k _
          have hfar : ∀ {b : Nat} {o : Obj}, b ≠ H → wo.heap[b]? = some o → w4.heap[b]? = some o := by
            intro b o hne hbo
            rw [hw4, Below.heap_alloc _ _ _ (by rw [hsz]; exact lt_of_block hbo), Below.heap_setCell _ ⟨H, k, none⟩ _ _ (fun e => hne e)]
            exact hbo
          have hg1H : g1 ≠ H := by
            rintro rfl
            have h5 := HHD.out
            rw [a3] at h5
            injection h5 with h5
            injection h5 with _ h5 _
            exact absurd h5 (by decide)
          have HK0 : Hid (w4.heap[wo.heap.size]? = some (.cells (madeCells #[.int .i64 0] s) 2 (0, 0))) := hide (by
            have := heap_alloc_new (wo.setCell ⟨H, k, none⟩ (.slice (some ⟨wo.heap.size, 0, none⟩) s s)) (.cells (madeCells #[.int .i64 0] s) 2)
            rw [hsz, ← hw4] at this
            exact this)
          have HB4 : Hid (Below w.heap.size w w4) := hide (by
            rw [hw4]
            exact (HR.out.bel.setCell (by show w.heap.size ≤ H; omega) _).alloc (by rw [hsz]; exact HR.out.bel.size) _)
          have HHEAP : Hid (w4.heap = ((wo.setCell ⟨H, k, none⟩ (.slice (some ⟨wo.heap.size, 0, none⟩) s s)).alloc (.cells (madeCells #[.int .i64 0] s) 2)).heap) := hide (by rw [hw4])
          have HBX4 : Hid (w4.heap[w.heap.size]? = some (.cells #[.int .i64 (i : Int), .slice A ls.length c] 24 (0, 0))) := hide (hfar (by omega) hbox)
          have HG14 : Hid (w4.heap[g1]? = some (.cells cur1 2 (0, 0))) := hide (hfar hg1H a3)
          have hg1lt := lt_of_block a3
          have HH4 := hide hH4
          have hk1 : (hd.setIfInBounds k (.slice (some ⟨wo.heap.size, 0, none⟩) s s))[k + 1]? = some (.slice (some ⟨g1, 0, none⟩) s s) := by
            rw [Array.getElem?_setIfInBounds_ne (by omega)]
            exact a1
          have hk0' : (hd.setIfInBounds k (.slice (some ⟨wo.heap.size, 0, none⟩) s s))[k]? = some (.slice (some ⟨wo.heap.size, 0, none⟩) s s) := by
            rw [Array.getElem?_setIfInBounds_self_of_lt (by omega)]
          have HK1 := hide hk1
          have HKK := hide hk0'
          have HA5 := hide a5
          obtain ⟨gk, hgk⟩ : ∃ gk, gk = wo.heap.size := ⟨_, rfl⟩
          have hgkH : gk ≠ H := by omega
          have hgk1 : g1 ≠ gk := by omega
          have hgkw : w.heap.size < gk := by omega
          have HGK := hide hgk
          rw [← hgk] at HK0 HHEAP HH4 HK1 HKK ⊢
          obtain ⟨⟨h1, h2⟩, l, ha, hlx, _, _⟩ := HA.out.get (show k < ls.length by omega)
          have HLB := hide (HIN.out.good l (List.mem_of_getElem? hlx))
          have hlen : l.length ≤ 8 := HIN.out.short l (List.mem_of_getElem? hlx)
          obtain ⟨bb, bo, hAA, hbB, hat⟩ := HA.out.at_ (by omega)
          have HCELL : Hid (∀ W, Below w.heap.size w W → W.cell? ⟨bb, bo + k, none⟩ = some (.slice h1 l.length h2)) := hide (fun W hW => (hW.cell (p := ⟨bb, bo + k, none⟩) hbB).trans (hat k _ l ha hlx))
          have HROW : Hid (∀ W, Below w.heap.size w W → Offs W w.heap.size h1 l) := hide (fun W hW => ((HA.out.row k _ l ha hlx).1).below hW)
          have HTOP := hide (fun o (ho : o ∈ l) => HIN.out.top l (List.mem_of_getElem? hlx) o ho)
          have HBW := hide (fun f => bestW_step ls k l hlx f)
          have HBD : Hid (∀ g, 0 ≤ bestW (ls.drop (k + 1)) g ∧ bestW (ls.drop (k + 1)) g ≤ 32 * 1099511627776) := hide (fun g => by
            have := bestW_bd _ (HIN.out.good.drop (k + 1)) g
            simp only [List.length_drop] at this
            omega)
          have HFILL : Hid (∀ wi, w4.grownBy wi (some gk) → RowTo gk s k ls s wi → TabRel w H s (i : Int) A c ls k wi) := hide (fun wi h3 h4 => HR.out.fill (by omega) (by rw [HGK.out]; exact Nat.le_refl _) HHEAP.out HB4.out h3 h4)
          subst hAA
          clear z1 z1' z2 z2' HROWS HHD hw4 hH4 hfar a1 a3 a4 a5 hbox hboxlt hsz hk1 hk0' hgk ha hlx hat hg1H hdsz
          generalize hd.setIfInBounds k (.slice (some ⟨gk, 0, none⟩) s s) = hd2 at *
          go_loopw [7] (fun fv wi => ∃ f : Nat, f ≤ s ∧ fv = .int .i64 f ∧ RowTo gk s k ls f wi ∧ w4.grownBy wi (some gk)) (fun fv _ => s - (intOf fv).toNat)
          case atStart => exact ⟨0, Nat.zero_le _, rfl, ⟨_, HK0.out, size_madeCells _ _, fun j hj => absurd hj (by omega)⟩, World.grownBy.refl _ _⟩
          case round =>
            rename World => wi
            obtain ⟨f, hf, rfl, hrow, hgi⟩ := hrel
            have HROWI := hide hrow
            have HGI := hide hgi
            clear hrow hgi
            have HBI : Hid (Below w.heap.size w wi) := hide (HB4.out.grown HGI.out HB4.out.size (fun j hj => by have := Option.some.inj hj; omega))
            by_cases hfs : f < s
            · have HHI : Hid (wi.heap[H]? = some (.cells hd2 73 (0, 0))) := hide ((HGI.out.block H (lt_of_block HH4.out) (fun e => hgkH (Option.some.inj e).symm)).trans HH4.out)
              have HBXI : Hid (wi.heap[w.heap.size]? = some (.cells #[.int .i64 (i : Int), .slice (some ⟨bb, bo, none⟩) ls.length c] 24 (0, 0))) := hide ((HGI.out.block _ (lt_of_block HBX4.out) (fun e => by have := Option.some.inj e; omega)).trans HBX4.out)
              have HG1I : Hid (wi.heap[g1]? = some (.cells cur1 2 (0, 0))) := hide ((HGI.out.block _ (lt_of_block HG14.out) (fun e => hgk1 (Option.some.inj e))).trans HG14.out)
              have c1 : wi.cell? ⟨H, k + 1, none⟩ = some (.slice (some ⟨g1, 0, none⟩) s s) := (cell_of_row wi H (k + 1) _ _ (0, 0) HHI.out).trans HK1.out
              have c2 : wi.cell? ⟨g1, f, none⟩ = some (.int .i64 (bestW (ls.drop (k + 1)) f)) := (cell_of_row wi g1 f _ _ (0, 0) HG1I.out).trans (HA5.out f hfs)
              have hki : (k : Int) + 1 < (ls.length : Int) + 1 := by omega
              have HB0 := hide (HBD.out f)
              go_wp2_with fail
              clear c1 c2
              go_loopw [8, 9] (fun wv tv wj => ∃ t : Nat, t ≤ l.length ∧ tv = .int .i64 t ∧ wv = .int .i64 ((l.take t).foldl (stepW (bestW (ls.drop (k + 1))) f) (bestW (ls.drop (k + 1)) f)) ∧ wi.grownBy wj none) (fun _ tv _ => l.length - (intOf tv).toNat)
              case atStart => exact ⟨0, Nat.zero_le _, rfl, rfl, World.grownBy.refl _ _⟩
              case round =>
                obtain ⟨t, ht, rfl, rfl, hgj⟩ := hrel
                have hbj : Below w.heap.size w wr := HBI.out.grown hgj HBI.out.size (fun j hj => by cases hj)
                have hbx := (hgj.block _ (lt_of_block HBXI.out) (by simp)).trans HBXI.out
                have hHj := (hgj.block _ (lt_of_block HHI.out) (by simp)).trans HHI.out
                have hg1j := (hgj.block _ (lt_of_block HG1I.out) (by simp)).trans HG1I.out
                have y1 : wr.cell? ⟨w.heap.size, 1, none⟩ = some (.slice (some ⟨bb, bo, none⟩) ls.length c) := cell_of_row wr w.heap.size 1 _ _ (0, 0) hbx
                have y2 := HCELL.out wr hbj
                have hkN : (k : Int) < (ls.length : Int) := by omega
                have HGJ := hide hgj
                have HBJ := hide hbj
                have HHJ := hide hHj
                have HG1J := hide hg1j
                have hHl := lt_of_block hHj
                have hg1l := lt_of_block hg1j
                clear hgj hbj hbx hHj hg1j
                by_cases htl : t < l.length
                · obtain ⟨ob, oo, hA1, hobB, hoc⟩ := (HROW.out wr HBJ.out).at_ (by omega)
                  obtain ⟨x, hx⟩ : ∃ x, l[t]? = some x := ⟨l[t], List.getElem?_eq_getElem htl⟩
                  obtain ⟨q0, q1⟩ := hoc t x hx
                  have hgx := HLB.out x (List.mem_of_getElem? hx)
                  have htop := HTOP.out x (List.mem_of_getElem? hx)
                  have HT := hide (take_fold (rest := bestW (ls.drop (k + 1))) (f := f) (b := bestW (ls.drop (k + 1)) f) hx)
                  obtain ⟨g, co⟩ := x
                  obtain ⟨_, hg32, hco1, hco2⟩ := hgx
                  simp only at q0 q1 hg32 hco1 hco2 htop
                  rw [Int.toNat_natCast, ← HS.out] at htop
                  subst hA1
                  have hx1 := i64_and_n g f (by omega) (by omega)
                  have hgb : (g : Int) < 4294967296 := by omega
                  have hgw : IntKind.i64.wrap (g : Int) = (g : Int) := Go.IntWalk.i64_in _ (by omega)
                  clear hoc hx
                  by_cases hwi : g &&& f = g
                  · have hgf := within_le g f hwi
                    have HV : Hid ((l.take (t + 1)).foldl (stepW (bestW (ls.drop (k + 1))) f) (bestW (ls.drop (k + 1)) f) = max ((l.take t).foldl (stepW (bestW (ls.drop (k + 1))) f) (bestW (ls.drop (k + 1)) f)) (co + bestW (ls.drop (k + 1)) (f - g))) := hide (by
                      rw [HT.out]
                      unfold stepW
                      rw [if_pos (by rw [withinB_and g f (by omega) (by omega)]; simp [hwi]), lessG_sub g f (by omega) (by omega) hwi])
                    have ht1 : (((g &&& f : Nat) : Int) == (g : Int)) = true := by rw [hwi]; simp
                    have hv := HBD.out (f - g)
                    have r1 : ∀ o, (wr.alloc o).cell? ⟨H, k + 1, none⟩ = some (.slice (some ⟨g1, 0, none⟩) s s) := fun o => (World.cell?_alloc_lt wr o ⟨H, k + 1, none⟩ hHl).trans ((cell_of_row wr H (k + 1) _ _ (0, 0) HHJ.out).trans HK1.out)
                    have r2 : ∀ o, (wr.alloc o).cell? ⟨g1, f - g, none⟩ = some (.int .i64 (bestW (ls.drop (k + 1)) (f - g))) := fun o => (World.cell?_alloc_lt wr o ⟨g1, f - g, none⟩ hg1l).trans ((cell_of_row wr g1 (f - g) _ _ (0, 0) HG1J.out).trans (HA5.out (f - g) (by omega)))
                    have n1 : IntKind.i64.wrap ((k : Int) + 1) = (k : Int) + 1 := Go.IntWalk.i64_in _ (by omega)
                    have n2 : IntKind.i64.wrap ((f : Int) - (g : Int)) = (f : Int) - (g : Int) := Go.IntWalk.i64_in _ (by omega)
                    have n3 : ((f : Int) - (g : Int)).toNat = f - g := by omega
                    have n4 : (0 : Int) ≤ (f : Int) - (g : Int) := by omega
                    have n5 : (f : Int) - (g : Int) < (s : Int) := by omega
                    have n6 : ((k : Int) + 1).toNat = k + 1 := by omega
                    generalize (l.take t).foldl (stepW (bestW (ls.drop (k + 1))) f) (bestW (ls.drop (k + 1)) f) = bt at *
                    generalize bestW (ls.drop (k + 1)) (f - g) = v at *
                    have n7 : IntKind.i64.wrap (co + v) = co + v := Go.IntWalk.i64_in _ (by omega)
                    clear hwi
                    go_wp2_with fail
                    go_quiet (fail)
                    go_wp2_with fail
                    go_roundw
                    case rel => exact ⟨t + 1, by omega, by go_num, by rw [HV.out]; split <;> exact int_eq (by omega), grown_drewN (HGJ.out.trans (grown_alloc _ _ _)) _⟩
                    case measure => simp [intOf]; omega
                  · have ht1 : (((g &&& f : Nat) : Int) == (g : Int)) = false := by simp; omega
                    have HV : Hid ((l.take (t + 1)).foldl (stepW (bestW (ls.drop (k + 1))) f) (bestW (ls.drop (k + 1)) f) = (l.take t).foldl (stepW (bestW (ls.drop (k + 1))) f) (bestW (ls.drop (k + 1)) f)) := hide (by
                      rw [HT.out]
                      unfold stepW
                      rw [if_neg (by rw [withinB_and g f (by omega) (by omega)]; simpa using hwi)])
                    clear hwi
                    go_wp2_with fail
                    go_roundw
                    case rel => exact ⟨t + 1, by omega, by go_num, by rw [HV.out], HGJ.out.trans (grown_alloc _ _ _)⟩
                    case measure => simp [intOf]; omega
                · obtain rfl : t = l.length := by omega
                  have c0 : wr.cell? ⟨H, k, none⟩ = some (.slice (some ⟨gk, 0, none⟩) s s) := (cell_of_row wr H k _ _ (0, 0) HHJ.out).trans HKK.out
                  obtain ⟨cur, u1, u2, u3⟩ := HROWI.out
                  have hgkj := (HGJ.out.block gk (lt_of_block u1) (by simp)).trans u1
                  have c3 : wr.cell? ⟨gk, f, none⟩ = some (cur[f]'(by omega)) := (cell_of_row wr gk f _ _ (0, 0) hgkj).trans (Array.getElem?_eq_getElem _)
                  have c4 : wr.frozen? ⟨gk, f, none⟩ = false := by simp [World.frozen?, hgkj]
                  have HGKJ := hide hgkj
                  have HU3 := hide u3
                  have HVF : Hid (l.foldl (stepW (bestW (ls.drop (k + 1))) f) (bestW (ls.drop (k + 1)) f) = bestW (ls.drop k) f) := hide (HBW.out f).symm
                  rw [List.take_of_length_le (Nat.le_refl _), HVF.out]
                  generalize (cur[f]'(by omega)) = old at *
                  clear hgkj u3 u1
                  go_wp2_with fail
                  refine ⟨⟨f + 1, by omega, by go_num, ⟨cur.setIfInBounds f (.int .i64 (bestW (ls.drop k) f)), setCell_block HGKJ.out f _, by simp [u2], fun j hj => ?_⟩, ?_⟩, by simp [intOf]; omega⟩
                  · rcases Nat.lt_or_ge j f with h5 | h5
                    · rw [Array.getElem?_setIfInBounds_ne (by omega)]
                      exact HU3.out j h5
                    · obtain rfl : j = f := by omega
                      rw [Array.getElem?_setIfInBounds_self_of_lt (by omega)]
                  · exact (HGI.out.trans ((grown_any HGJ.out (some gk)).trans (grown_set _)))
            · obtain rfl : f = s := by omega
              have HRF := hide (HFILL.out wi HGI.out HROWI.out)
              go_wp2_with fail
              refine ⟨⟨k, by omega, by rfl, HRF.out⟩, by simp [intOf]⟩
end Go.Proofs.Ytkjmpenaifhfjaa
