/- The walks of sealed's boxes: Bid, Drop, Of, Len, Copy of any box. -/
import Derived.Test.YtnidmoljhopcoaaWorks
import Derived.Test.YtnidmoljhopcoaaTurns
import Derived.Test.YtnidmoljhopcoaaUntil
import Derived.Laws.OwnMore
import Derived.Maps.AppendAt
namespace Go.Proofs.Ytnidmoljhopcoaa
open Go.RowKit

theorem eqnil_none (w : World) : (binOp .eql 22 (.slice none 0 0) (.slice none 0 0)).run Try.prog w = .ok (.bool true) w := Lib.run_eql_slice_nil w _ _ none 0 0 0 0 Try.underlying22
theorem eqnil_some (w : World) (a : Addr) (n c : Nat) : (binOp .eql 22 (.slice (some a) n c) (.slice none 0 0)).run Try.prog w = .ok (.bool false) w := Lib.run_eql_slice_nil w _ _ (some a) n c 0 0 Try.underlying22
theorem flat_one (l : List (Int × Int)) : ∀ u ∈ flat l, u.oneCell' = true := by
  intro u hu
  obtain ⟨b, _, hb⟩ := List.mem_flatMap.1 hu
  simp at hb
  rcases hb with rfl | rfl <;> rfl

def ClonePost (l : List (Int × Int)) (w : World) (e : Ending) (w' : World) : Prop := ∃ A c, e = .returned (.slice A l.length c) ∧ w'.ownsRow w.heap.size 33 2 (.slice A l.length c) l.length (flat l) ∧ Below w.heap.size w w'
set_option maxHeartbeats 1000000 in
theorem clone_nil (w : World) : Calls Try.prog 38 #[.slice none 0 0] w (ClonePost [] w) := by
  have h1 := eqnil_none
  go_enter Try.func38, Try.ntmps38
  go_wp2
  go_ret
  exact ⟨none, 0, rfl, World.ownsRow_nil _ _ _ _, Below.refl _ _⟩
set_option maxHeartbeats 1000000 in
theorem clone_some (a : Addr) (c : Nat) (l : List (Int × Int)) (w : World) (h : Bids w w.heap.size (some a) l) (hl : l.length ≤ 1000000) :
    Calls Try.prog 38 #[.slice (some a) l.length c] w (ClonePost l w) := by
  have h1 := eqnil_some
  have HA := hide h
  have HO1 : Hid ((w.alloc (.cells #[] 33)).ownsRow w.heap.size 33 2 (.slice (some ⟨w.heap.size, 0, none⟩) 0 0) 0 []) := hide (World.ownsRow_made w #[] 0 (Nat.le_refl _) (by decide) rfl)
  have HB : Hid (Below w.heap.size w (w.alloc (.cells #[] 33))) := hide ((Below.refl _ _).alloc (Nat.le_refl _) _)
  have G1 := hide (flat_one l)
  have G5 : Hid (0 + l.length ≤ maxLen) := hide (by unfold maxLen; omega)
  have G6 : Hid ((0 + l.length) * 16 ≤ 140737488355328) := hide (by omega)
  clear h
  go_enter Try.func38, Try.ntmps38
  go_wp2_with (at_builtin; refine wpList_append_any rfl (.tmp 5) (.tmp 6) 22 rfl w.heap.size 33 _ 2 16 info33 Try.underlying22 rfl (by decide) _ 0 [] rfl HO1.out w.heap.size (some a) l.length c (flat l) rfl (HA.out.below HB.out) G1.out G5.out G6.out HB.out.size ?_; intro v1 w1 hown1 hg1 _; have HO := hide hown1; have HG := hide hg1; clear hown1 hg1)
  go_ret
  obtain ⟨A, c', hv, _⟩ := own_sh HO.out
  subst hv
  have h5 := HO.out
  rw [Nat.zero_add, List.nil_append] at h5
  refine ⟨A, c', by rw [Nat.zero_add]; rfl, h5, HB.out.grown HG.out HB.out.size (fun j hj => by have := Option.some.inj (show some w.heap.size = some j from hj); omega)⟩
theorem clone_own {B : Nat} (v : Value) (l : List (Int × Int)) (w : World) (h : w.ownsRow B 33 2 v l.length (flat l)) (hl : l.length ≤ 1000000) :
    Calls Try.prog 38 #[v] w (ClonePost l w) := by
  rcases h.2 with ⟨rfl, h0⟩ | ⟨g, cap, cur, rfl, _⟩
  · obtain rfl := List.eq_nil_of_length_eq_zero h0
    exact clone_nil w
  · exact clone_some _ cap l w (Reads.of_own h) hl

theorem own_front {w : World} {B e size n k : Nat} {A : Option Addr} {c : Nat} {xs : List Value} (h : w.ownsRow B e size (.slice A n c) n xs) (hk : k ≤ n) (h0 : 0 < n) : w.ownsRow B e size (.slice A k c) k (xs.take (k * size)) := by
  obtain ⟨h1, h2⟩ := h
  refine ⟨by rw [List.length_take, h1]; exact Nat.min_eq_left (Nat.mul_le_mul_right _ hk), ?_⟩
  rcases h2 with ⟨_, h2⟩ | ⟨g, cap, cur, hv, hg, hh, hle, hm, hs, ht⟩
  · omega
  · injection hv with e1 e2 e3
    subst e1 e3
    refine .inr ⟨g, c, cur, rfl, hg, hh, by omega, hm, hs, ?_⟩
    rw [← ht, List.take_take, Nat.min_eq_left (Nat.mul_le_mul_right _ hk)]

theorem idxTo_bd (p : Int × Int → Bool) (l : List (Int × Int)) : -1 ≤ idxTo p l ∧ idxTo p l < l.length := by
  unfold idxTo
  cases h : l.findIdx? p with
  | none => simp; omega
  | some i =>
    obtain ⟨hi, _⟩ := List.findIdx?_eq_some_iff_getElem.1 h
    simp
    omega
def dropL (bidder : Int) (l : List (Int × Int)) : List (Int × Int) := if idxTo (isB bidder) l < 0 then l else l.take (idxTo (isB bidder) l).toNat ++ l.drop ((idxTo (isB bidder) l).toNat + 1)
def dropC (bidder : Int) (l : List (Int × Int)) : Int := if idxTo (isB bidder) l < 0 then 4 else 0
/-- What a call on a box leaves: the box with other bids; its own blocks alone have turned. -/
def OpP (B p : Nat) (v : Value) (floor : Int) (l' : List (Int × Int)) (code : Int) (w : World) (e : Ending) (w' : World) : Prop :=
  e = .returned (.int .i64 code) ∧ ∃ v', BoxOf w' B p v' floor l' ∧ Turns (Foot p v) w w' ∧ (v'.ownBlock = v.ownBlock ∨ ∀ g, v'.ownBlock = some g → w.heap.size ≤ g)

set_option maxRecDepth 100000 in
set_option maxHeartbeats 2000000 in
theorem drop_hit (B p : Nat) (v : Value) (floor bidder : Int) (l : List (Int × Int)) (w : World) (h : BoxOf w B p v floor l) (hB : B ≤ w.heap.size) (hl : l.length ≤ 1000000) (i : Nat) (hi : idxTo (isB bidder) l = i) (hil : i < l.length) :
    Calls Try.prog 30 #[.pointer (some ⟨p, 0, none⟩), .int .i64 bidder] w (OpP B p v floor (l.take i ++ l.drop (i + 1)) 0 w) := by
  obtain ⟨g, c, rfl, _⟩ := h.row.form (by omega)
  have hcap : l.length ≤ c := by obtain ⟨_, _, e, hc⟩ := own_sh h.row; injection e with _ _ e; omega
  have hR := Reads.of_own h.row
  have c0 := h.cell 0
  have c2 := h.cell 2
  simp at c0 c2
  have HF := hide (find_any B p _ floor bidder l w h hl)
  rw [hi] at HF
  have HB := hide h
  have hlt := lt_of_block h.blk
  clear hi h
  obtain ⟨A', hA'⟩ : ∃ A' : Option Addr, A' = if c = i + 1 then some ⟨g, 0, none⟩ else some ⟨g, (i + 1) * 2, none⟩ := ⟨_, rfl⟩
  have hRt : Reads w w.heap.size 2 A' (l.length - (i + 1)) (flat (l.drop (i + 1))) := by
    have h5 := Reads.cut hR (k := i + 1) (cap := c) (by omega) hcap
    rw [flat_drop] at h5
    rw [hA']
    simpa [Addr.add] using h5
  have hRf : w.ownsRow B 33 2 (.slice (some ⟨g, 0, none⟩) i c) i (flat (l.take i)) := by
    have h5 := own_front HB.out.row (k := i) (by omega) (by omega)
    rwa [flat_take] at h5
  have HCL : Hid (∀ W, Below w.heap.size w W → Calls Try.prog 38 #[.slice (some ⟨g, 0, none⟩) i c] W (ClonePost (l.take i) W)) := hide (fun W hW => by
    have h5 := clone_own (.slice (some ⟨g, 0, none⟩) i c) (l.take i) W (by rw [List.length_take, Nat.min_eq_left (by omega)]; exact own_below hRf hW (Nat.le_refl _)) (by simp; omega)
    exact h5)
  have HRT : Hid (∀ W, Below w.heap.size w W → Reads W w.heap.size 2 A' (l.length - (i + 1)) (flat (l.drop (i + 1)))) := hide (fun W hW => hRt.below hW)
  have HCX : Hid (∀ W, Below w.heap.size w W → W.cell? ⟨p, 2, none⟩ = some (.slice (some ⟨g, 0, none⟩) l.length c)) := hide (fun W hW => (hW.cell (p := ⟨p, 2, none⟩) hlt).trans c2)
  have HAD : Hid (((⟨g, 0, none⟩ : Addr).add ((i + 1) * 2)) = ⟨g, (i + 1) * 2, none⟩) := hide (by simp [Addr.add])
  have hAx := hA'.symm
  have hI0 : (0 : Int) ≤ (i : Int) + 1 := by omega
  have hIL : (i : Int) ≤ (l.length : Int) := by omega
  have hIC : (i : Int) ≤ (c : Int) := by omega
  have hI1 : (i : Int) + 1 ≤ (l.length : Int) := by omega
  have hLC : (l.length : Int) ≤ (c : Int) := by omega
  have hwi : IntKind.i64.wrap ((i : Int) + 1) = (i : Int) + 1 := Go.IntWalk.i64_in _ (by omega)
  have HM1 : Hid (i + (l.length - (i + 1)) ≤ maxLen) := hide (by unfold maxLen; omega)
  have HM2 : Hid ((i + (l.length - (i + 1))) * 16 ≤ 140737488355328) := hide (by omega)
  clear hRt hRf hR c2 hA'
  go_enter Try.func30, Try.ntmps30
  go_wp2_with (first | (go_at_call 36; refine (none_any p true _ c0).mono ?_; rintro e w' ⟨rfl, rfl⟩) | (go_at_call 44; refine (HF.out).mono ?_; rintro e w1 ⟨rfl, hb1⟩; have HB1 := hide hb1; clear hb1 HF))
  have s0 := HCX.out w1.drew HB1.out.drew
  clear c0
  refine wp_region_U 18 (fun W => W.cell? ⟨p, 2, none⟩ = some (.slice (some ⟨g, 0, none⟩) l.length c)) rfl s0 (fun hHeld => ?_)
  refine AnyU.take (i := 0) (v := ?v1) rfl (by kernel_rfl) (by kernel_rfl) (by kernel_rfl) (by kernel_rfl) (fun _ _ _ h => h) (Or.inl ⟨by rfl, ?hy1⟩) hHeld ?r1
  case hy1 => (intro w hSw; (try dsimp only at hSw); go_simp <;> with_reducible rfl)
  simp only [Act.put, List.setIfInBounds_toArray, List.set_cons_zero, List.set_cons_succ]
  refine AnyU.take (i := 1) (v := ?v2) rfl (by kernel_rfl) (by kernel_rfl) (by kernel_rfl) (by kernel_rfl) (fun _ _ _ h => h) (Or.inl ⟨by rfl, ?hy2⟩) hHeld ?r2
  case hy2 => (intro w hSw; (try dsimp only at hSw); go_simp <;> with_reducible rfl)
  simp only [Act.put, List.setIfInBounds_toArray, List.set_cons_zero, List.set_cons_succ]
  refine AnyU.take (i := 2) (v := ?v3) rfl (by kernel_rfl) (by kernel_rfl) (by kernel_rfl) (by kernel_rfl) (fun _ _ _ h => h) (Or.inl ⟨by rfl, ?hy3⟩) hHeld ?r3
  case hy3 => (intro w hSw; (try dsimp only at hSw); go_simp <;> with_reducible rfl)
  simp only [Act.put, List.setIfInBounds_toArray, List.set_cons_zero, List.set_cons_succ]
  refine AnyU.take (i := 3) (v := ?v4) rfl (by kernel_rfl) (by kernel_rfl) (by kernel_rfl) (by kernel_rfl) (fun _ _ _ h => h) (Or.inl ⟨by rfl, ?hy4⟩) hHeld ?r4
  case hy4 => (intro w hSw; (try dsimp only at hSw); go_simp <;> with_reducible rfl)
  simp only [Act.put, List.setIfInBounds_toArray, List.set_cons_zero, List.set_cons_succ]
  refine AnyU.take (i := 4) (v := ?v5) rfl (by kernel_rfl) (by kernel_rfl) (by kernel_rfl) (by kernel_rfl) (fun _ _ _ h => h) (Or.inl ⟨by rfl, ?hy5⟩) hHeld ?r5
  case hy5 => (intro w hSw; (try dsimp only at hSw); go_simp <;> with_reducible rfl)
  simp only [Act.put, List.setIfInBounds_toArray, List.set_cons_zero, List.set_cons_succ]
  refine AnyU.take (i := 5) (v := ?v6) rfl (by kernel_rfl) (by kernel_rfl) (by kernel_rfl) (by kernel_rfl) (fun _ _ _ h => h) (Or.inl ⟨by rfl, ?hy6⟩) hHeld ?r6
  case hy6 => (intro w hSw; (try dsimp only at hSw); go_simp <;> with_reducible rfl)
  simp only [Act.put, List.setIfInBounds_toArray, List.set_cons_zero, List.set_cons_succ]
  refine AnyU.take (i := 6) (v := ?v7) rfl (by kernel_rfl) (by kernel_rfl) (by kernel_rfl) (by kernel_rfl) (fun _ _ _ h => h) (Or.inl ⟨by rfl, ?hy7⟩) hHeld ?r7
  case hy7 => (intro w hSw; (try dsimp only at hSw); go_simp <;> with_reducible rfl)
  simp only [Act.put, List.setIfInBounds_toArray, List.set_cons_zero, List.set_cons_succ]
  refine AnyU.take (i := 8) (v := ?v8) rfl (by kernel_rfl) (by kernel_rfl) (by kernel_rfl) (by kernel_rfl) (fun _ _ _ h => h) (Or.inl ⟨by rfl, ?hy8⟩) hHeld ?r8
  case hy8 => (intro w hSw; (try dsimp only at hSw); go_simp <;> with_reducible rfl)
  simp only [Act.put, List.setIfInBounds_toArray, List.set_cons_zero, List.set_cons_succ]
  refine AnyU.take (i := 9) (v := ?v9) rfl (by kernel_rfl) (by kernel_rfl) (by kernel_rfl) (by kernel_rfl) (fun _ _ _ h => h) (Or.inl ⟨by rfl, ?hy9⟩) hHeld ?r9
  case hy9 => (intro w hSw; (try dsimp only at hSw); go_simp <;> with_reducible rfl)
  simp only [Act.put, List.setIfInBounds_toArray, List.set_cons_zero, List.set_cons_succ]
  refine AnyU.take (i := 10) (v := ?v10) rfl (by kernel_rfl) (by kernel_rfl) (by kernel_rfl) (by kernel_rfl) (fun _ _ _ h => h) (Or.inl ⟨by rfl, ?hy10⟩) hHeld ?r10
  case hy10 => (intro w hSw; (try dsimp only at hSw); go_simp <;> with_reducible rfl)
  simp only [Act.put, List.setIfInBounds_toArray, List.set_cons_zero, List.set_cons_succ]
  refine AnyU.take (i := 11) (v := ?v11) rfl (by kernel_rfl) (by kernel_rfl) (by kernel_rfl) (by kernel_rfl) (fun _ _ _ h => h) (Or.inl ⟨by rfl, ?hy11⟩) hHeld ?r11
  case hy11 => (intro w hSw; (try dsimp only at hSw); go_simp <;> with_reducible rfl)
  simp only [Act.put, List.setIfInBounds_toArray, List.set_cons_zero, List.set_cons_succ]
  refine AnyU.take (i := 12) (v := ?v12) rfl (by kernel_rfl) (by kernel_rfl) (by kernel_rfl) (by kernel_rfl) (fun _ _ _ h => h) (Or.inl ⟨by rfl, ?hy12⟩) hHeld ?r12
  case hy12 => (intro w hSw; (try dsimp only at hSw); go_simp <;> with_reducible rfl)
  simp only [Act.put, List.setIfInBounds_toArray, List.set_cons_zero, List.set_cons_succ]
  refine AnyU.take (i := 13) (v := ?v13) rfl (by kernel_rfl) (by kernel_rfl) (by kernel_rfl) (by kernel_rfl) (fun _ _ _ h => h) (Or.inl ⟨by rfl, ?hy13⟩) hHeld ?r13
  case hy13 => (intro w hSw; (try dsimp only at hSw); go_simp <;> with_reducible rfl)
  simp only [Act.put, List.setIfInBounds_toArray, List.set_cons_zero, List.set_cons_succ]
  refine AnyU.take (i := 14) (v := ?v14) rfl (by kernel_rfl) (by kernel_rfl) (by kernel_rfl) (by kernel_rfl) (fun _ _ _ h => h) (Or.inl ⟨by rfl, ?hy14⟩) hHeld ?r14
  case hy14 => (intro w hSw; (try dsimp only at hSw); go_simp <;> with_reducible rfl)
  simp only [Act.put, List.setIfInBounds_toArray, List.set_cons_zero, List.set_cons_succ]
  refine AnyU.next (js := [7]) (by kernel_rfl) (by simp) (NextU.cons rfl (fun K hK => ?_) NextU.nil)
  go_simp
  refine (HCL.out _ HB1.out.drew).mono ?_
  rintro e w7 ⟨A7, c7, rfl, hown7, hb7⟩
  have HB7 : Hid (Below w.heap.size w w7) := hide (HB1.out.drew.trans (hb7.mono HB1.out.size))
  have HO7 : Hid (w7.ownsRow w1.heap.size 33 2 (.slice A7 (l.take i).length c7) (l.take i).length (flat (l.take i))) := hide hown7
  have s7 := hide (HCX.out w7 HB7.out)
  have HB17 : Hid (Below w1.heap.size w1 w7) := hide ((Below.refl w1.heap.size w1).drew.trans hb7)
  clear hown7 hb7
  rw [List.length_take, Nat.min_eq_left (by omega)] at *
  go_wp2_with fail
  refine hK.out _ _ (fun _ => s7.out) (fun hHeld => ?_)
  replace hHeld := hHeld (by decide)
  try simp only [Act.put, List.setIfInBounds_toArray, List.set_cons_zero, List.set_cons_succ]
  refine AnyU.next (js := [15]) (by kernel_rfl) (by simp) (NextU.cons rfl (fun K hK => ?_) NextU.nil)
  have hsz7 := HB7.out.size
  refine step_append_any rfl (.tmp 20) (.tmp 27) 22 rfl w1.heap.size 33 (.agg #[.int .i64 0, .int .i64 0]) 2 16 info33 Try.underlying22 rfl (by decide) _ i (flat (l.take i)) rfl HO7.out w.heap.size A' (l.length - (i + 1)) (c - (i + 1)) (flat (l.drop (i + 1))) rfl (HRT.out _ HB7.out) (flat_one _) HM1.out HM2.out (by have := HB17.out.size; omega) ?_
  intro v9 w9 hown9 hg9 _
  obtain ⟨A9, c9, hv9, _⟩ := own_sh hown9
  subst hv9
  have HO9 := hide hown9
  have HB9 : Hid (Below w.heap.size w w9) := hide (HB7.out.grown hg9 HB7.out.size (fun j hj => by have := (HO7.out.lt j hj).1; have := HB1.out.size; omega))
  have s9 := hide (HCX.out w9 HB9.out)
  have HP9 : Hid (w9.heap[p]? = some (.cells #[.bool true, .int .i64 floor, .slice (some ⟨g, 0, none⟩) l.length c] 60 (0, 0))) := hide ((HB9.out.block p hlt).trans HB.out.blk)
  have f9 : w9.frozen? ⟨p, 2, none⟩ = false := by simp [World.frozen?, HP9.out]
  clear hown9 hg9
  refine hK.out _ _ (fun _ => s9.out) (fun hHeld => ?_)
  replace hHeld := hHeld (by decide)
  try simp only [Act.put, List.setIfInBounds_toArray, List.set_cons_zero, List.set_cons_succ]
  refine AnyU.next (js := [16]) (by kernel_rfl) (by simp) (NextU.cons rfl (fun K hK => ?_) NextU.nil)
  go_simp
  refine hK.out _ _ (fun _ => s9.out) (fun hHeld => ?_)
  replace hHeld := hHeld (by decide)
  try simp only [Act.put, List.setIfInBounds_toArray, List.set_cons_zero, List.set_cons_succ]
  refine AnyU.next (js := [17]) (by kernel_rfl) (by simp) (NextU.cons rfl (fun K hK => ?_) NextU.nil)
  go_simp
  refine hK.out _ _ (fun _ => s9.out) (fun hHeld => ?_)
  replace hHeld := hHeld (by decide)
  try simp only [Act.put, List.setIfInBounds_toArray, List.set_cons_zero, List.set_cons_succ]
  refine AnyU.next (js := [18]) (by kernel_rfl) (by simp) (NextU.cons rfl (fun K hK => ?_) NextU.nil)
  go_simp
  refine hK.out _ _ (fun h => absurd h (by decide)) (fun _ => ?_)
  try simp only [Act.put, List.setIfInBounds_toArray, List.set_cons_zero, List.set_cons_succ]
  refine AnyU.over (by kernel_rfl) ?_ _
  go_wp2_with fail
  go_ret
  have hlen : (l.take i ++ l.drop (i + 1)).length = i + (l.length - (i + 1)) := by simp; omega
  have np := own_ne HO9.out HP9.out (by simp)
  refine ⟨rfl, _, ⟨setCell_block HP9.out 2 _, ?_, HB.out.base⟩, ?_, .inr (fun k hk => Nat.le_trans HB1.out.size (HO9.out.lt k hk).1)⟩
  · rw [hlen, flat_append]
    exact own_base (ownsRow_setCell_other HO9.out (a := ⟨p, 2, none⟩) np _) (Nat.le_trans hB HB1.out.size)
  · exact (Turns.of_below HB9.out).next (Turns.of_set w9 ⟨p, 2, none⟩ _) (fun k _ e => .inl e)

theorem OpP.of_below {B p : Nat} {v : Value} {floor code : Int} {l : List (Int × Int)} {w w' : World} (h : BoxOf w B p v floor l) (hb : Below w.heap.size w w') : OpP B p v floor l code w (.returned (.int .i64 code)) w' :=
  ⟨rfl, v, h.below hb, Turns.of_below hb, .inl rfl⟩
theorem drop_any (B p : Nat) (v : Value) (floor bidder : Int) (l : List (Int × Int)) (w : World) (h : BoxOf w B p v floor l) (hB : B ≤ w.heap.size) (hl : l.length ≤ 1000000) :
    Calls Try.prog 30 #[.pointer (some ⟨p, 0, none⟩), .int .i64 bidder] w (OpP B p v floor (dropL bidder l) (dropC bidder l) w) := by
  by_cases hi : idxTo (isB bidder) l < 0
  · unfold dropL dropC
    rw [if_pos hi, if_pos hi]
    refine (drop_miss B p v floor bidder l w h hl hi).mono ?_
    rintro e w' ⟨rfl, hb⟩
    exact OpP.of_below h hb
  · unfold dropL dropC
    rw [if_neg hi, if_neg hi]
    have hb := idxTo_bd (isB bidder) l
    exact drop_hit B p v floor bidder l w h hB hl _ (by omega) (by omega)

def bidC (floor bidder c : Int) : Int := if bidder < 0 ∨ coinsB c = false then 2 else if c < floor then 7 else 0
def bidL (floor bidder c : Int) (l : List (Int × Int)) : List (Int × Int) := if bidC floor bidder c = 0 then dropL bidder l ++ [(bidder, c)] else l
theorem dropL_len (bidder : Int) (l : List (Int × Int)) : (dropL bidder l).length ≤ l.length := by
  unfold dropL
  split
  · exact Nat.le_refl _
  · simp
    omega
theorem bidL_len (floor bidder c : Int) (l : List (Int × Int)) : (bidL floor bidder c l).length ≤ l.length + 1 := by
  unfold bidL
  have := dropL_len bidder l
  split
  · simp; omega
  · omega

set_option maxRecDepth 100000 in
set_option maxHeartbeats 2000000 in
theorem bid_good (B p : Nat) (v : Value) (floor bidder c : Int) (l : List (Int × Int)) (w : World) (h : BoxOf w B p v floor l) (hB : B ≤ w.heap.size) (hl : l.length ≤ 100000) (hb : 0 ≤ bidder) (hc : coinsB c = true) (hf : floor ≤ c) :
    Calls Try.prog 23 #[.pointer (some ⟨p, 0, none⟩), .int .i64 bidder, .int .i64 c] w (OpP B p v floor (dropL bidder l ++ [(bidder, c)]) 0 w) := by
  have c0 := h.cell 0
  have c1 := h.cell 1
  simp at c0 c1
  have HC := hide (fun W => coins_any c W)
  rw [hc] at HC
  have HD := hide (drop_any B p _ floor bidder l w h hB (by omega))
  have HDL := hide (dropL_len bidder l)
  have HV : Hid (∀ k, v.ownBlock = some k → B ≤ k) := hide (fun k hk => (h.row.lt k hk).1)
  have HP := hide h.base
  generalize dropL bidder l = l1 at *
  generalize dropC bidder l = cd at *
  clear hc h
  go_enter Try.func23, Try.ntmps23
  go_wp2_with (first | (go_at_call 36; refine (none_any p true _ c0).mono ?_; rintro e w' ⟨rfl, rfl⟩) | (go_at_call 26; refine (HC.out _).mono ?_; rintro e w' ⟨rfl, rfl⟩))
  refine (HD.out).mono ?_
  rintro e w1 ⟨rfl, v1, hbx1, ht1, hv1⟩
  obtain ⟨A, cp, rfl, _⟩ := own_sh hbx1.row
  have d0 := hbx1.cell 0
  have d1 := hbx1.cell 1
  have d2 := hbx1.cell 2
  simp at d0 d1 d2
  have g2 := hbx1.free 2
  have np := own_ne hbx1.row hbx1.blk (by simp)
  have G1 : Hid (∀ u ∈ [Value.int .i64 bidder, .int .i64 c], u.oneCell' = true) := hide (by intro u hu; simp at hu; rcases hu with rfl | rfl <;> rfl)
  have G2 : Hid (l1.length + 1 ≤ maxLen) := hide (by have := HDL.out; unfold maxLen; omega)
  have G3 : Hid ((l1.length + 1) * 16 ≤ 140737488355328) := hide (by have := HDL.out; omega)
  have G4 : Hid (B ≤ w1.heap.size) := hide (by have := ht1.size; omega)
  have HB1 := hide hbx1
  have HT1 := hide ht1
  have HV1 := hide hv1
  clear c0 c1 hbx1 ht1 hv1
  go_wp2_with (at_builtin; refine wpList_app rfl (.tmp 32) (.tmp 36) 22 rfl B (.agg #[.int .i64 0, .int .i64 0]) 2 16 info33 Try.underlying22 rfl (by decide) _ _ _ rfl HB1.out.row 1 1 rfl rfl G1.out G2.out G3.out G4.out ?_; intro v' w2 hown hg _ hvv; have hp2 := (hg.block p (lt_of_block HB1.out.blk) (Ne.symm np)).trans HB1.out.blk; have np' := own_ne hown hp2 (by simp); have e0 := cell_of_row w2 p 2 _ 60 (0, 0) hp2; have e1 : w2.frozen? ⟨p, 2, none⟩ = false := (by simp [World.frozen?, hp2]); obtain ⟨A', cp', hv', _⟩ := own_sh hown; rw [hv'] at hown np' hvv ⊢; have HO := hide hown; have HP2 := hide hp2; have HG := hide hg; have HVV := hide hvv; clear hown hp2 hg hv' hvv)
  go_ret
  have hown' : ∀ k, (Value.slice A l1.length cp).ownBlock = some k → v.ownBlock = some k ∨ w.heap.size ≤ k := fun k hk => by
    rcases HV1.out with e | e
    · exact .inl (e ▸ hk)
    · exact .inr (e k hk)
  refine ⟨rfl, _, ⟨setCell_block HP2.out 2 _, ?_, HP.out⟩, ?_, ?_⟩
  · have := ownsRow_setCell_other HO.out (a := ⟨p, 2, none⟩) np' (.slice A' (l1.length + 1) cp')
    rw [flat_append, List.length_append]
    exact this
  · refine Turns.next (HT1.out.next (Turns.of_grown HG.out) (fun k hk e => ?_)) (Turns.of_set w2 ⟨p, 2, none⟩ _) (fun k _ e => .inl e)
    rcases hown' k e with h5 | h5
    · exact .inr h5
    · omega
  · rcases HVV.out with e | ⟨g, e, hg⟩
    · rcases HV1.out with e1 | e1
      · exact .inl (e.trans e1)
      · exact .inr (fun k hk => e1 k (e ▸ hk))
    · exact .inr (fun k hk => by rw [hk] at e; injection e with e; have := HT1.out.size; omega)

set_option maxHeartbeats 1000000 in
theorem bid_bad (B p : Nat) (v : Value) (floor bidder c : Int) (l : List (Int × Int)) (w : World) (h : BoxOf w B p v floor l) (hbc : bidC floor bidder c ≠ 0) :
    Calls Try.prog 23 #[.pointer (some ⟨p, 0, none⟩), .int .i64 bidder, .int .i64 c] w (OpP B p v floor l (bidC floor bidder c) w) := by
  have c0 := h.cell 0
  have c1 := h.cell 1
  simp at c0 c1
  have HC := hide (fun W => coins_any c W)
  have HB := hide h
  clear h
  rcases Int.lt_or_le bidder 0 with hb | hb
  · have hR : bidC floor bidder c = 2 := by unfold bidC; rw [if_pos (.inl hb)]
    rw [hR]
    have hb1 : decide (bidder < 0) = true := by simpa using hb
    clear hbc hR
    go_enter Try.func23, Try.ntmps23
    go_wp2_with (first | (go_at_call 36; refine (none_any p true _ c0).mono ?_; rintro e w' ⟨rfl, rfl⟩) | (go_at_call 26; refine (HC.out _).mono ?_; rintro e w' ⟨rfl, rfl⟩))
    go_ret
    exact OpP.of_below HB.out (Below.refl _ _)
  · have hb1 : decide (bidder < 0) = false := by simpa using hb
    rcases hcc : coinsB c with _ | _
    · rw [hcc] at HC
      have hR : bidC floor bidder c = 2 := by unfold bidC; rw [if_pos (.inr hcc)]
      rw [hR]
      clear hbc hR hcc
      go_enter Try.func23, Try.ntmps23
      go_wp2_with (first | (go_at_call 36; refine (none_any p true _ c0).mono ?_; rintro e w' ⟨rfl, rfl⟩) | (go_at_call 26; refine (HC.out _).mono ?_; rintro e w' ⟨rfl, rfl⟩))
      go_ret
      exact OpP.of_below HB.out (Below.refl _ _)
    · rw [hcc] at HC
      have hf : c < floor := by
        rcases Int.lt_or_le c floor with h5 | h5
        · exact h5
        · exact absurd (by unfold bidC; rw [if_neg (by simp [hcc]; omega), if_neg (by omega)]) hbc
      have hR : bidC floor bidder c = 7 := by unfold bidC; rw [if_neg (by simp [hcc]; omega), if_pos hf]
      rw [hR]
      clear hbc hR hcc
      go_enter Try.func23, Try.ntmps23
      go_wp2_with (first | (go_at_call 36; refine (none_any p true _ c0).mono ?_; rintro e w' ⟨rfl, rfl⟩) | (go_at_call 26; refine (HC.out _).mono ?_; rintro e w' ⟨rfl, rfl⟩))
      go_ret
      exact OpP.of_below HB.out (Below.refl _ _)
theorem bid_any (B p : Nat) (v : Value) (floor bidder c : Int) (l : List (Int × Int)) (w : World) (h : BoxOf w B p v floor l) (hB : B ≤ w.heap.size) (hl : l.length ≤ 100000) :
    Calls Try.prog 23 #[.pointer (some ⟨p, 0, none⟩), .int .i64 bidder, .int .i64 c] w (OpP B p v floor (bidL floor bidder c l) (bidC floor bidder c) w) := by
  by_cases hz : bidC floor bidder c = 0
  · unfold bidL
    rw [if_pos hz, hz]
    have h2 : ¬ (bidder < 0 ∨ coinsB c = false) := fun h5 => by unfold bidC at hz; rw [if_pos h5] at hz; cases hz
    have h3 : ¬ c < floor := fun h5 => by unfold bidC at hz; rw [if_neg h2, if_pos h5] at hz; cases hz
    have h4 : coinsB c = true := by cases hx : coinsB c; exact absurd (.inr hx) h2; rfl
    exact bid_good B p v floor bidder c l w h hB hl (by omega) h4 (by omega)
  · unfold bidL
    rw [if_neg hz]
    exact bid_bad B p v floor bidder c l w h hz

set_option maxHeartbeats 1000000 in
theorem len_any (B p : Nat) (v : Value) (floor : Int) (l : List (Int × Int)) (w : World) (h : BoxOf w B p v floor l) :
    Calls Try.prog 13 #[.pointer (some ⟨p, 0, none⟩)] w (NumPost (l.length : Int) w) := by
  obtain ⟨A, cp, rfl, _⟩ := own_sh h.row
  have c0 := h.cell 0
  have c2 := h.cell 2
  simp at c0 c2
  clear h
  go_enter Try.func13, Try.ntmps13
  go_wp2_with (first | (go_at_call 36; refine (none_any p true _ c0).mono ?_; rintro e w' ⟨rfl, rfl⟩))
  go_ret
  exact ⟨rfl, rfl⟩

def ofV (bidder : Int) (l : List (Int × Int)) : Value := if idxTo (isB bidder) l < 0 then .tuple #[.int .i64 0, .bool false] else .tuple #[.int .i64 (coinsAt l (idxTo (isB bidder) l).toNat), .bool true]
set_option maxHeartbeats 1000000 in
theorem of_any (B p : Nat) (v : Value) (floor bidder : Int) (l : List (Int × Int)) (w : World) (h : BoxOf w B p v floor l) (hl : l.length ≤ 1000000) :
    Calls Try.prog 32 #[.pointer (some ⟨p, 0, none⟩), .int .i64 bidder] w (ValPost (ofV bidder l) w) := by
  have HF := hide (find_any B p _ floor bidder l w h hl)
  obtain ⟨A, cp, rfl, _⟩ := own_sh h.row
  have c0 := h.cell 0
  have c2 := h.cell 2
  simp at c0 c2
  have hlt := lt_of_block h.blk
  have hat := Bids.at_ (Reads.of_own h.row : Bids w w.heap.size A l)
  have hbd := idxTo_bd (isB bidder) l
  unfold ofV
  by_cases hi : idxTo (isB bidder) l < 0
  · rw [if_pos hi]
    generalize idxTo (isB bidder) l = i at *
    clear h hat hbd
    go_enter Try.func32, Try.ntmps32
    go_wp2_with (first | (go_at_call 36; refine (none_any p true _ c0).mono ?_; rintro e w' ⟨rfl, rfl⟩) | (go_at_call 44; refine (HF.out).mono ?_; rintro e w1 ⟨rfl, hb1⟩))
    refine bodyPost_ret (v := .tuple #[.int .i64 0, .bool false]) (by simp [results, Try.results32, go_sem]) rfl ?_
    exact ⟨rfl, hb1⟩
  · rw [if_neg hi]
    obtain ⟨i, hie⟩ : ∃ i : Nat, idxTo (isB bidder) l = i := ⟨(idxTo (isB bidder) l).toNat, by omega⟩
    rw [hie] at HF hbd ⊢
    rw [Int.toNat_natCast]
    obtain ⟨b, o, rfl, hbB, hc⟩ := hat (by omega)
    obtain ⟨x, hx⟩ : ∃ x, l[i]? = some x := ⟨l[i]'(by omega), List.getElem?_eq_getElem (by omega)⟩
    have hcx : coinsAt l i = x.2 := by unfold coinsAt; rw [hx]; rfl
    rw [hcx]
    obtain ⟨_, hc1⟩ := hc i x hx
    have HCC : Hid (∀ W, Below w.heap.size w W → W.cell? ⟨p, 2, none⟩ = some (.slice (some ⟨b, o, none⟩) l.length cp) ∧ W.cell? ⟨b, o + i * 2 + 1, none⟩ = some (.int .i64 x.2)) := hide (fun W hW => ⟨(hW.cell (p := ⟨p, 2, none⟩) hlt).trans c2, (hW.cell (p := ⟨b, o + i * 2 + 1, none⟩) hbB).trans hc1⟩)
    have hil : (i : Int) < (l.length : Int) := by omega
    clear h hat hi hie hc hx hcx hc1
    go_enter Try.func32, Try.ntmps32
    go_wp2_with (first | (go_at_call 36; refine (none_any p true _ c0).mono ?_; rintro e w' ⟨rfl, rfl⟩) | (go_at_call 44; refine (HF.out).mono ?_; rintro e w1 ⟨rfl, hb1⟩; obtain ⟨k1, k2⟩ := HCC.out w1 hb1; have HB1 := hide hb1; clear hb1))
    refine bodyPost_ret (v := .tuple #[.int .i64 x.2, .bool true]) (by simp [results, Try.results32, go_sem]) rfl ?_
    exact ⟨rfl, HB1.out⟩

def CopyP (floor : Int) (l : List (Int × Int)) (w : World) (e : Ending) (w' : World) : Prop := ∃ p v, e = .returned (.pointer (some ⟨p, 0, none⟩)) ∧ BoxOf w' w.heap.size p v floor l ∧ Below w.heap.size w w'
set_option maxHeartbeats 1000000 in
theorem copy_any (B p : Nat) (v : Value) (floor : Int) (l : List (Int × Int)) (w : World) (h : BoxOf w B p v floor l) (hl : l.length ≤ 1000000) :
    Calls Try.prog 35 #[.pointer (some ⟨p, 0, none⟩)] w (CopyP floor l w) := by
  have HB := hide h
  have c0 := h.cell 0
  have c1 := h.cell 1
  have c2 := h.cell 2
  simp at c0 c1 c2
  have hlt := lt_of_block h.blk
  clear h
  go_enter Try.func35, Try.ntmps35
  go_wp2_with (first | (go_at_call 36; refine (none_any p true _ c0).mono ?_; rintro e w' ⟨rfl, rfl⟩))
  obtain ⟨A, cp, rfl, _⟩ := own_sh HB.out.row
  refine wp_region_U 11 (fun W => W.cell? ⟨p, 1, none⟩ = some (.int .i64 floor) ∧ W.cell? ⟨p, 2, none⟩ = some (.slice A l.length cp)) rfl ⟨c1, c2⟩ (fun hHeld => ?_)
  refine AnyU.take (i := 0) (v := ?v15) rfl (by kernel_rfl) (by kernel_rfl) (by kernel_rfl) (by kernel_rfl) (fun _ _ _ h => h) (Or.inl ⟨by rfl, ?hy15⟩) hHeld ?r15
  case hy15 => (intro w hSw; (try dsimp only at hSw); go_simp <;> with_reducible rfl)
  simp only [Act.put, List.setIfInBounds_toArray, List.set_cons_zero, List.set_cons_succ]
  refine AnyU.take (i := 1) (v := ?v16) rfl (by kernel_rfl) (by kernel_rfl) (by kernel_rfl) (by kernel_rfl) (fun _ _ _ h => h) (Or.inl ⟨by rfl, ?hy16⟩) hHeld ?r16
  case hy16 => (intro w hSw; (try dsimp only at hSw); go_simp <;> with_reducible rfl)
  simp only [Act.put, List.setIfInBounds_toArray, List.set_cons_zero, List.set_cons_succ]
  refine AnyU.take (i := 2) (v := ?v17) rfl (by kernel_rfl) (by kernel_rfl) (by kernel_rfl) (by kernel_rfl) (fun _ _ _ h => h) (Or.inl ⟨by rfl, ?hy17⟩) hHeld ?r17
  case hy17 => (intro w hSw; (try dsimp only at hSw); go_simp <;> with_reducible rfl)
  simp only [Act.put, List.setIfInBounds_toArray, List.set_cons_zero, List.set_cons_succ]
  refine AnyU.take (i := 3) (v := ?v18) rfl (by kernel_rfl) (by kernel_rfl) (by kernel_rfl) (by kernel_rfl) (fun _ _ _ h => h) (Or.inl ⟨by rfl, ?hy18⟩) hHeld ?r18
  case hy18 => (intro w hSw; (try dsimp only at hSw); go_simp <;> with_reducible rfl)
  simp only [Act.put, List.setIfInBounds_toArray, List.set_cons_zero, List.set_cons_succ]
  refine AnyU.take (i := 4) (v := ?v19) rfl (by kernel_rfl) (by kernel_rfl) (by kernel_rfl) (by kernel_rfl) (fun _ _ _ h => h) (Or.inl ⟨by rfl, ?hy19⟩) hHeld ?r19
  case hy19 => (intro w hSw; (try dsimp only at hSw); go_simp <;> with_reducible rfl)
  simp only [Act.put, List.setIfInBounds_toArray, List.set_cons_zero, List.set_cons_succ]
  refine AnyU.take (i := 5) (v := ?v20) rfl (by kernel_rfl) (by kernel_rfl) (by kernel_rfl) (by kernel_rfl) (fun _ _ _ h => h) (Or.inl ⟨by rfl, ?hy20⟩) hHeld ?r20
  case hy20 => (intro w hSw; (try dsimp only at hSw); go_simp <;> with_reducible rfl)
  simp only [Act.put, List.setIfInBounds_toArray, List.set_cons_zero, List.set_cons_succ]
  refine AnyU.take (i := 6) (v := ?v21) rfl (by kernel_rfl) (by kernel_rfl) (by kernel_rfl) (by kernel_rfl) (fun _ _ _ h => h) (Or.inl ⟨by rfl, ?hy21⟩) hHeld ?r21
  case hy21 => (intro w hSw; (try dsimp only at hSw); go_simp <;> with_reducible rfl)
  simp only [Act.put, List.setIfInBounds_toArray, List.set_cons_zero, List.set_cons_succ]
  refine AnyU.take (i := 7) (v := ?v22) rfl (by kernel_rfl) (by kernel_rfl) (by kernel_rfl) (by kernel_rfl) (fun _ _ _ h => h) (Or.inl ⟨by rfl, ?hy22⟩) hHeld ?r22
  case hy22 => (intro w hSw; (try dsimp only at hSw); go_simp <;> with_reducible rfl)
  simp only [Act.put, List.setIfInBounds_toArray, List.set_cons_zero, List.set_cons_succ]
  refine AnyU.next (js := [8]) (by kernel_rfl) (by simp) (NextU.cons rfl (fun K hK => ?_) NextU.nil)
  go_simp
  refine (clone_own _ l w.drew HB.out.row hl).mono ?_
  rintro e w7 ⟨A7, c7, rfl, hown7, hb7⟩
  have HO7 : Hid (w7.ownsRow w.heap.size 33 2 (.slice A7 l.length c7) l.length (flat l)) := hide hown7
  have HB7 : Hid (Below w.heap.size w w7) := hide ((Below.refl _ _).drew.trans hb7)
  have s7 := hide (show w7.cell? ⟨p, 1, none⟩ = some (.int .i64 floor) ∧ w7.cell? ⟨p, 2, none⟩ = some (.slice A l.length cp) from ⟨(HB7.out.cell (p := ⟨p, 1, none⟩) hlt).trans c1, (HB7.out.cell (p := ⟨p, 2, none⟩) hlt).trans c2⟩)
  have s8 := hide (fun o : Obj => show (w7.alloc o).cell? ⟨p, 1, none⟩ = some (.int .i64 floor) ∧ (w7.alloc o).cell? ⟨p, 2, none⟩ = some (.slice A l.length cp) from ⟨((HB7.out.alloc HB7.out.size o).cell (p := ⟨p, 1, none⟩) hlt).trans c1, ((HB7.out.alloc HB7.out.size o).cell (p := ⟨p, 2, none⟩) hlt).trans c2⟩)
  clear hown7 hb7
  go_wp2_with fail
  refine hK.out _ _ (fun _ => s7.out) (fun hHeld => ?_)
  replace hHeld := hHeld (by decide)
  try simp only [Act.put, List.setIfInBounds_toArray, List.set_cons_zero, List.set_cons_succ]
  refine AnyU.next (js := [9]) (by kernel_rfl) (by simp) (NextU.cons rfl (fun K hK => ?_) NextU.nil)
  go_simp
  refine hK.out _ _ (fun _ => s7.out) (fun hHeld => ?_)
  replace hHeld := hHeld (by decide)
  try simp only [Act.put, List.setIfInBounds_toArray, List.set_cons_zero, List.set_cons_succ]
  refine AnyU.next (js := [10]) (by kernel_rfl) (by simp) (NextU.cons rfl (fun K hK => ?_) NextU.nil)
  go_simp
  refine hK.out _ _ (fun _ => s8.out _) (fun hHeld => ?_)
  replace hHeld := hHeld (by decide)
  try simp only [Act.put, List.setIfInBounds_toArray, List.set_cons_zero, List.set_cons_succ]
  refine AnyU.next (js := [11]) (by kernel_rfl) (by simp) (NextU.cons rfl (fun K hK => ?_) NextU.nil)
  go_simp
  refine hK.out _ _ (fun h => absurd h (by decide)) (fun _ => ?_)
  try simp only [Act.put, List.setIfInBounds_toArray, List.set_cons_zero, List.set_cons_succ]
  refine AnyU.over (by kernel_rfl) ?_ _
  go_wp2_with fail
  go_ret
  refine ⟨w7.heap.size, _, rfl, ⟨heap_alloc_new w7 _, own_below HO7.out ((Below.refl _ _).alloc (Nat.le_refl _) _) (Nat.le_refl _), HB7.out.size⟩, HB7.out.alloc HB7.out.size _⟩
end Go.Proofs.Ytnidmoljhopcoaa
