/- The walks of clear.All and of the going over that it hands out. -/
import Derived.Test.YtkjmpenaifhfjaaAllN
import Derived.Test.YtkjmpenaifhfjaaTab
namespace Go.Proofs.Ytkjmpenaifhfjaa
open Go.RowKit Go.Maps Go.Shelf
open Go.ChangeMaps Go.WideMaps

theorem on_any {p : Nat → Prop} {all : List (List Int)} {J Jx : List (Value × List Int) → World → Prop} {W0 : World} {B cc yc bc xc oc l bp m base : Nat} {n : Int} {A : Option Addr} {c : Nat} {hs : List Hdr} {ls : List (List Offer)} {cv : Value}
    (hI : GoodI n ls) (hbase : base ≤ W0.heap.size) (hp : ∀ i, p i → B ≤ i ∧ i < W0.heap.size) (hJ : LowFrom W0.heap.size J)
    (hY : ∀ (pre : List (Value × List Int)) (x : Value × List Int) (W1 : World), J pre W1 → NextC base all pre x W1 → OutP p W0 W1 → ∀ m, YieldAt Fence.wide m Try.prog l (encC x) W1 fun e W' =>
      OutP (fun k => p k ∨ ownC x k) W1 W' ∧ ((e = .returned (.bool true) ∧ J (pre ++ [x]) W') ∨ (e = .returned (.bool false) ∧ Jx (pre ++ [x]) W'))) : ∀ j k, k + j = ls.length → OnAll p all J Jx W0 B cc yc bc xc oc l bp m n A c hs ls cv k
  | 0, k, h => by
    obtain rfl : k = ls.length := by omega
    intro f head pre W hf hh hE hj ho hpre
    refine on_end rfl hbase hp hJ hI.few hY f head hh pre W hE hj ho ?_
    rw [List.drop_length] at hpre
    simpa [choicesW] using hpre
  | j + 1, k, h => on_step hI hp hJ k (by omega) (on_any hI hbase hp hJ hY j (k + 1) (by omega))

set_option maxRecDepth 100000 in
set_option maxHeartbeats 4000000 in
theorem all_good {p : Nat → Prop} {W : World} {B xc rc base : Nat} {n : Int} {A : Option Addr} {c : Nat} {hs : List Hdr} {ls : List (List Offer)} (hI : GoodI n ls) (hp : ∀ i, p i → B ≤ i ∧ i < W.heap.size) (hbase : base ≤ W.heap.size) (hBW : B ≤ W.heap.size)
    (hr : W.heap[rc]? = some (.cells #[.bool true] 4 (0, 0))) (hx : W.heap[xc]? = some (.cells #[.int .i64 n, .slice A ls.length c] 24 (0, 0))) (hxB : xc < B) (hb : Buys W B A hs ls) :
    SeqL p ownC Try.prog 43 #[.pointer (some ⟨rc, 0, none⟩), .pointer (some ⟨xc, 0, none⟩)] encC (fun xs => xs.map Prod.snd = choicesW ls (allG n.toNat)) (fun pre => pre.map Prod.snd <+: choicesW ls (allG n.toNat)) (NextC base (choicesW ls (allG n.toNat))) W := by
  intro l J Jx hJ hJx hY h0
  have HON : Hid (∀ (cc yc bc oc bp m : Nat) (cv : Value), OnAll p (choicesW ls (allG n.toNat)) J Jx W B cc yc bc xc oc l bp m n A c hs ls cv 0) := hide (fun cc yc bc oc bp m cv => on_any hI hbase hp hJ hY ls.length 0 (by omega))
  have hll : (ls.length : Int) ≤ 32 := by have := hI.few; omega
  have HAE : Hid (allI n = allG n.toNat) := hide (by unfold allI; rw [if_neg (by have := hI.lo; have := hI.hi; omega)])
  have HTP : Hid (allG n.toNat < 2 ^ n.toNat) := hide (by
    unfold allG
    have : 1 ≤ 2 ^ n.toNat := Nat.one_le_two_pow
    omega)
  have hmk := run_make_row' (P := Try.prog) 33 3 (.int .i64 0) 8 Try.underlying33 infoI rfl .i64 .i64 ls.length (by omega) (by omega)
  have hmf : ∀ (fn : Fn) (first cap : Array Value) (w : World), (Instr.makeFunc fn first cap).run Try.prog w = .ok (.func fn first cap) w := fun _ _ _ _ => rfl
  have c0 : ∀ ob, (W.alloc ob).cell? ⟨rc, 0, none⟩ = some (.bool true) := fun ob => (World.cell?_alloc_lt W ob ⟨rc, 0, none⟩ (lt_of_block hr)).trans (cell_of_row W rc 0 _ _ (0, 0) hr)
  have HJ := hide hJ
  have H0 := hide h0
  have HX := hide hx
  have HB := hide hb
  have HP := hide hp
  have HBW := hide hBW
  have HXB := hide hxB
  clear hI hJ hJx hY h0 hx hb hp hr hBW hbase
  go_enter Try.func43, Try.ntmps43
  go_upto_region 2 with fail
  have HB1 : Hid (Below W.heap.size W (W.alloc (.cells #[.func (.yield l) #[] #[]] 85))) := hide ((Below.refl _ _).alloc (Nat.le_refl _) _)
  have HY1 : Hid ((W.alloc (.cells #[.func (.yield l) #[] #[]] 85)).heap[W.heap.size]? = some (.cells #[.func (.yield l) #[] #[]] 85 (0, 0))) := hide (heap_alloc_new W _)
  generalize W.alloc (.cells #[.func (.yield l) #[] #[]] 85) = w1 at *
  have HX1 : Hid (w1.heap[xc]? = some (.cells #[.int .i64 n, .slice A ls.length c] 24 (0, 0))) := hide ((HB1.out.block _ (lt_of_block HX.out)).trans HX.out)
  have x0 := cell_of_row w1 xc 0 _ _ (0, 0) HX1.out
  have x1 := cell_of_row w1 xc 1 _ _ (0, 0) HX1.out
  simp at x0 x1
  have HOF := hide (of_any n A c hs ls w1 ((HB.out.more HBW.out).up HB1.out))
  simp only [instV] at HOF
  clear c0
  go_upto_region 3 with (go_at_call 29; refine (HOF.out).mono ?_; rintro e w2 ⟨bp, m, rfl, hbd2, hb2⟩; have HBD2 := hide hbd2; have HB2 := hide hb2; clear hbd2 hb2)
  have HB3 : Hid (Below w2.heap.size w2 (w2.alloc (.cells #[.pointer (some ⟨bp, 0, none⟩)] 66))) := hide ((Below.refl _ _).alloc (Nat.le_refl _) _)
  have HK3 : Hid ((w2.alloc (.cells #[.pointer (some ⟨bp, 0, none⟩)] 66)).heap[w2.heap.size]? = some (.cells #[.pointer (some ⟨bp, 0, none⟩)] 66 (0, 0))) := hide (heap_alloc_new w2 _)
  generalize w2.alloc (.cells #[.pointer (some ⟨bp, 0, none⟩)] 66) = w3 at *
  have HX3 : Hid (w3.heap[xc]? = some (.cells #[.int .i64 n, .slice A ls.length c] 24 (0, 0))) := hide ((HB3.out.block _ (by have := lt_of_block HX1.out; have := HB2.out.size; omega)).trans ((HB2.out.block _ (lt_of_block HX1.out)).trans HX1.out))
  clear x0 x1
  have x1 := cell_of_row w3 xc 1 _ _ (0, 0) HX3.out
  simp at x1
  go_upto_region 4 with fail
  have HB5 : Hid (Below w3.heap.size w3 ((w3.alloc (.cells (madeCells #[.int .i64 0] ls.length) 3)).alloc (.cells #[.slice (some ⟨w3.heap.size, 0, none⟩) ls.length ls.length] 33))) := hide (((Below.refl _ _).alloc (Nat.le_refl _) _).alloc (by simp) _)
  have HR5 : Hid (((w3.alloc (.cells (madeCells #[.int .i64 0] ls.length) 3)).alloc (.cells #[.slice (some ⟨w3.heap.size, 0, none⟩) ls.length ls.length] 33)).heap[w3.heap.size]? = some (.cells (madeCells #[.int .i64 0] ls.length) 3 (0, 0))) := hide ((Below.heap_alloc _ _ _ (by simp)).trans (heap_alloc_new w3 _))
  have HC5 : Hid (((w3.alloc (.cells (madeCells #[.int .i64 0] ls.length) 3)).alloc (.cells #[.slice (some ⟨w3.heap.size, 0, none⟩) ls.length ls.length] 33)).heap[w3.heap.size + 1]? = some (.cells #[.slice (some ⟨w3.heap.size, 0, none⟩) ls.length ls.length] 33 (0, 0))) := hide (by
    have := heap_alloc_new (w3.alloc (.cells (madeCells #[.int .i64 0] ls.length) 3)) (.cells #[.slice (some ⟨w3.heap.size, 0, none⟩) ls.length ls.length] 33)
    simpa using this)
  generalize (w3.alloc (.cells (madeCells #[.int .i64 0] ls.length) 3)).alloc (.cells #[.slice (some ⟨w3.heap.size, 0, none⟩) ls.length ls.length] 33) = w5 at *
  clear x1 hmk
  go_upto_region 5 with fail
  have HB6 : Hid (Below w5.heap.size w5 (w5.alloc (.cells #[.nilFunc] 86))) := hide ((Below.refl _ _).alloc (Nat.le_refl _) _)
  have HN6 : Hid ((w5.alloc (.cells #[.nilFunc] 86)).heap[w5.heap.size]? = some (.cells #[.nilFunc] 86 (0, 0))) := hide (heap_alloc_new w5 _)
  generalize w5.alloc (.cells #[.nilFunc] 86) = w6 at *
  have hsf : ∀ (a : Addr) (m : Mode) (fn : Fn) (first captured : Array Value) (w : World), (store a (.func fn first captured) m).run Try.prog w = stored Try.prog w a (.func fn first captured) m := fun a m fn first captured w => run_store Try.prog w a _ m rfl
  have n0 := cell_of_row w6 w5.heap.size 0 _ _ (0, 0) HN6.out
  have n1 := frozen_of_row w6 w5.heap.size 0 _ _ HN6.out
  simp at n0
  go_upto_region 6 with fail
  have HB7 : Hid (Below w5.heap.size w5 (w6.setCell ⟨w5.heap.size, 0, none⟩ (.func (.func 44) #[] #[.pointer (some ⟨w3.heap.size + 1, 0, none⟩), .pointer (some ⟨W.heap.size, 0, none⟩), .pointer (some ⟨w2.heap.size, 0, none⟩), .pointer (some ⟨xc, 0, none⟩), .pointer (some ⟨w5.heap.size, 0, none⟩)]))) := hide (HB6.out.setCell (Nat.le_refl _) _)
  have HN7 : Hid ((w6.setCell ⟨w5.heap.size, 0, none⟩ (.func (.func 44) #[] #[.pointer (some ⟨w3.heap.size + 1, 0, none⟩), .pointer (some ⟨W.heap.size, 0, none⟩), .pointer (some ⟨w2.heap.size, 0, none⟩), .pointer (some ⟨xc, 0, none⟩), .pointer (some ⟨w5.heap.size, 0, none⟩)])).heap[w5.heap.size]? = some (.cells #[.func (.func 44) #[] #[.pointer (some ⟨w3.heap.size + 1, 0, none⟩), .pointer (some ⟨W.heap.size, 0, none⟩), .pointer (some ⟨w2.heap.size, 0, none⟩), .pointer (some ⟨xc, 0, none⟩), .pointer (some ⟨w5.heap.size, 0, none⟩)]] 86 (0, 0))) := hide (setCell_block HN6.out 0 _)
  generalize w6.setCell ⟨w5.heap.size, 0, none⟩ (.func (.func 44) #[] #[.pointer (some ⟨w3.heap.size + 1, 0, none⟩), .pointer (some ⟨W.heap.size, 0, none⟩), .pointer (some ⟨w2.heap.size, 0, none⟩), .pointer (some ⟨xc, 0, none⟩), .pointer (some ⟨w5.heap.size, 0, none⟩)]) = w7 at *
  clear n0 n1 hsf
  have HS1 : Hid (W.heap.size < w1.heap.size) := hide (lt_of_block HY1.out)
  have HS2 : Hid (w1.heap.size ≤ w2.heap.size) := hide HB2.out.size
  have HS3 : Hid (w2.heap.size < w3.heap.size) := hide (lt_of_block HK3.out)
  have HS5 : Hid (w3.heap.size + 1 < w5.heap.size) := hide (lt_of_block HC5.out)
  have HS7 : Hid (w5.heap.size < w7.heap.size) := hide (lt_of_block HN7.out)
  have HW7 : Hid (Below W.heap.size W w7) := hide ((((HB1.out.trans (HB2.out.mono (by have := HS1.out; omega))).trans (HB3.out.mono (by have := HS1.out; have := HS2.out; omega))).trans (HB5.out.mono (by have := HS1.out; have := HS2.out; have := HS3.out; omega))).trans (HB7.out.mono (by have := HS1.out; have := HS2.out; have := HS3.out; have := HS5.out; omega)))
  have HE7 : Hid (Env W.heap.size B (w3.heap.size + 1) W.heap.size w2.heap.size xc w5.heap.size l bp m n A c hs ls (.slice (some ⟨w3.heap.size, 0, none⟩) ls.length ls.length) [] w7) := hide (by
    have s1 := HS1.out
    have s2 := HS2.out
    have s3 := HS3.out
    have s5 := HS5.out
    have s7 := HS7.out
    have hlt := HBD2.out.lt
    have bp1 := HBD2.out.bp
    have bm1 := HBD2.out.bm
    have up5 : ∀ k, k < w5.heap.size → w7.heap[k]? = w5.heap[k]? := fun k hk => HB7.out.block k hk
    have up3 : ∀ k, k < w3.heap.size → w7.heap[k]? = w3.heap[k]? := fun k hk => (up5 k (by omega)).trans (HB5.out.block k hk)
    have up2 : ∀ k, k < w2.heap.size → w7.heap[k]? = w2.heap[k]? := fun k hk => (up3 k (by omega)).trans (HB3.out.block k hk)
    have up1 : ∀ k, k < w1.heap.size → w7.heap[k]? = w1.heap[k]? := fun k hk => (up2 k (by omega)).trans (HB2.out.block k hk)
    have hbu : Buys w7 B A hs ls := HB.out.keep (fun q hq => World.cell?_of_block (HW7.out.block q.block (by have := HBW.out; omega)))
    refine ⟨(up5 _ s5).trans HC5.out, (up1 _ s1).trans HY1.out, (up3 _ s3).trans HK3.out, (up3 _ (lt_of_block HX3.out)).trans HX3.out, HN7.out, ⟨(up2 _ hlt.1).trans HBD2.out.blk, hbu.more HBW.out, ?_, by omega, by omega⟩, hbu, ⟨List.replicate ls.length 0, ⟨by simp, .inr ⟨w3.heap.size, ls.length, madeCells #[.int .i64 0] ls.length, rfl, by omega, (up5 _ (by omega)).trans HR5.out, Nat.le_refl _, by unfold maxLen; omega, ?_, ?_⟩⟩, by simp⟩, by omega, Nat.le_refl _, by omega, HXB.out, by omega, HBW.out⟩
    · obtain ⟨D, ⟨es, clock, h1, h2, h3, h4⟩, h5⟩ := HBD2.out.map
      exact ⟨D, ⟨es, clock, (up2 _ hlt.2).trans h1, h2, h3, h4⟩, h5⟩
    · simp [madeCells]
    · rw [toList_madeCells_one]
      simp)
  clear HBD2 HB2 HB3 HB5 HB6 HB7 HN6 HN7 HC5 HR5 HX3 HK3 HX1 HY1 HB1 HOF HX HB
  obtain ⟨_, _, _, e3, e4, e5⟩ := HE7.out.cells
  have HWH := hide (fun X => whole_any n A ls.length c X)
  rw [HAE.out] at HWH
  simp only [instV] at HWH
  have HON0 := hide (HON.out (w3.heap.size + 1) W.heap.size w2.heap.size w5.heap.size bp m (.slice (some ⟨w3.heap.size, 0, none⟩) ls.length ls.length))
  clear HON
  have HON1 : Hid (∀ X : World, Below w7.heap.size w7 X → Calls Try.prog 44 #[.int .i64 0, .int .u32 (allG n.toNat : Int), .pointer (some ⟨w3.heap.size + 1, 0, none⟩), .pointer (some ⟨W.heap.size, 0, none⟩), .pointer (some ⟨w2.heap.size, 0, none⟩), .pointer (some ⟨xc, 0, none⟩), .pointer (some ⟨w5.heap.size, 0, none⟩)] X
      (OnPost p (choicesW ls (allG n.toNat)) J Jx W.heap.size B (w3.heap.size + 1) W.heap.size w2.heap.size xc w5.heap.size l bp m n A c hs ls (.slice (some ⟨w3.heap.size, 0, none⟩) ls.length ls.length) [] [] 0 (allG n.toNat) X)) := hide (fun X hX =>
    HON0.out (allG n.toNat) [] [] X HTP.out rfl (HE7.out.below hX) (HJ.out _ _ _ H0.out (HW7.out.trans (hX.mono HW7.out.size))) (OutP.of_below (HW7.out.trans (hX.mono HW7.out.size))) (by simp))
  clear HON0 HE7 HJ H0
  generalize hg3 : w3.heap.size + 1 = g3 at *
  clear hg3
  have hS0 := And.intro e3 (And.intro e4 e5)
  refine wp_region_U 4 (fun X => X.cell? ⟨xc, 0, none⟩ = some (.int .i64 n) ∧ X.cell? ⟨xc, 1, none⟩ = some (.slice A ls.length c) ∧ X.cell? ⟨w5.heap.size, 0, none⟩ = some (.func (.func 44) #[] #[.pointer (some ⟨g3, 0, none⟩), .pointer (some ⟨W.heap.size, 0, none⟩), .pointer (some ⟨w2.heap.size, 0, none⟩), .pointer (some ⟨xc, 0, none⟩), .pointer (some ⟨w5.heap.size, 0, none⟩)])) rfl hS0 (fun hHeld => ?_)
  clear e3 e4 e5
  have hlx := lt_of_cell hS0.1
  have hlo := lt_of_cell hS0.2.2
  refine AnyU.take (i := 0) (v := ?v1) rfl (by kernel_rfl) (by kernel_rfl) (by kernel_rfl) (by kernel_rfl) (fun _ _ _ h => h) (Or.inl ⟨by rfl, ?hy1⟩) hHeld ?r1
  case hy1 => (intro w hSw; (try dsimp only at hSw); go_simp <;> with_reducible rfl)
  simp only [Act.put, List.setIfInBounds_toArray, List.set_cons_zero, List.set_cons_succ]
  refine AnyU.take (i := 1) (v := ?v2) rfl (by kernel_rfl) (by kernel_rfl) (by kernel_rfl) (by kernel_rfl) (fun _ _ _ h => h) (Or.inl ⟨by rfl, ?hy2⟩) hHeld ?r2
  case hy2 => (intro w hSw; (try dsimp only at hSw); go_simp <;> with_reducible rfl)
  simp only [Act.put, List.setIfInBounds_toArray, List.set_cons_zero, List.set_cons_succ]
  refine AnyU.next (js := [2]) (by kernel_rfl) (by simp) (NextU.cons rfl (fun K hK => ?_) NextU.nil)
  go_simp
  refine (HWH.out w7.drew).mono ?_
  rintro e w8 ⟨rfl, hb8⟩
  have HB8 : Hid (Below w7.heap.size w7 w8) := hide ((Below.refl _ _).drew.trans hb8)
  have hS8 := hide (And.intro ((HB8.out.cell (p := ⟨xc, 0, none⟩) hlx).trans hS0.1) (And.intro ((HB8.out.cell (p := ⟨xc, 1, none⟩) hlx).trans hS0.2.1) ((HB8.out.cell (p := ⟨w5.heap.size, 0, none⟩) hlo).trans hS0.2.2)))
  clear hb8 hS0 hHeld hlx hlo
  go_wp2_with fail
  refine hK.out _ _ (fun _ => hS8.out) (fun hHeld => ?_)
  replace hHeld := hHeld (by decide)
  try simp only [Act.put, List.setIfInBounds_toArray, List.set_cons_zero, List.set_cons_succ]
  refine AnyU.next (js := [3]) (by kernel_rfl) (by simp) (NextU.cons rfl (fun K hK => ?_) NextU.nil)
  go_simp
  refine (HON1.out w8 HB8.out).mono ?_
  rintro e w9 ⟨ho9, hE9, b9, pre9, rfl, hb9⟩
  have hS9 := hide (And.intro hE9.cells.2.2.2.1 (And.intro hE9.cells.2.2.2.2.1 hE9.cells.2.2.2.2.2))
  have HB9 := hide hb9
  clear ho9 hE9 hb9 hHeld
  go_wp2_with fail
  refine hK.out _ _ (fun _ => hS9.out) (fun hHeld => ?_)
  replace hHeld := hHeld (by decide)
  try simp only [Act.put, List.setIfInBounds_toArray, List.set_cons_zero, List.set_cons_succ]
  refine AnyU.over (by kernel_rfl) ?_ _
  clear hHeld
  go_wp2_with fail
  go_end0
  refine ⟨⟨_, rfl⟩, ?_⟩
  rcases HB9.out with ⟨_, h1, h2⟩ | ⟨_, h1, h2⟩
  · exact .inl ⟨_, by rw [h1]; simp, h2⟩
  · exact .inr ⟨_, h1, h2⟩

/-- An instance that may not be has no choices. -/
theorem all_none {p : Nat → Prop} {W : World} {xc rc base : Nat} {all : List (List Int)} (hr : W.heap[rc]? = some (.cells #[.bool false] 4 (0, 0))) :
    SeqL p ownC Try.prog 43 #[.pointer (some ⟨rc, 0, none⟩), .pointer (some ⟨xc, 0, none⟩)] encC (fun xs => xs = []) (fun pre => pre = []) (NextC base all) W := by
  intro l J Jx hJ hJx hY h0
  have c0 : ∀ ob, (W.alloc ob).cell? ⟨rc, 0, none⟩ = some (.bool false) := fun ob => (World.cell?_alloc_lt W ob ⟨rc, 0, none⟩ (lt_of_block hr)).trans (cell_of_row W rc 0 _ _ (0, 0) hr)
  have HJ := hide hJ
  have H0 := hide h0
  clear hJ hJx hY h0 hr
  go_enter Try.func43, Try.ntmps43
  go_wp2_with fail
  refine bodyPost_ret (results_none rfl _ _ _) rfl ?_
  exact ⟨⟨_, rfl⟩, .inl ⟨[], rfl, HJ.out _ _ _ H0.out ((Below.refl _ _).alloc (Nat.le_refl _) _)⟩⟩
end Go.Proofs.Ytkjmpenaifhfjaa
