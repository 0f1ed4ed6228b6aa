/- The walk of gavelref15's own going over: (*walk).on lays the first choices: full, or at a choice's end. -/
import Derived.Test.YtkjmpenaifhfjaaAllP
import Derived.Test.YtkjmpenaifhfjaaRef15B
import Derived.Test.YtkjmpenaifhfjaaUntil
namespace Go.Proofs.Ytkjmpenaifhfjaa
open Go.RowKit Go.Maps
open Go.ChangeMaps Go.WideMaps

/-- Nothing but the blocks of p, and new ones, has turned. -/
structure Outs (p : Nat → Prop) (w w' : World) : Prop where
  size : w.heap.size ≤ w'.heap.size
  block : ∀ k, k < w.heap.size → ¬ p k → w'.heap[k]? = w.heap[k]?
/-- What an inner call may turn: the going over's record, the row of its lists. -/
structure Step (q : Nat) (v : Value) (W : World) (v' : Value) (W' : World) : Prop where
  out : Outs (fun i => i = q ∨ v.ownBlock = some i) W W'
  bel : Below q W W'
  own : ∀ i, v'.ownBlock = some i → v.ownBlock = some i ∨ W.heap.size ≤ i
theorem Step.trans {q : Nat} {v v' v'' : Value} {W W' W'' : World} (h : Step q v W v' W') (k : Step q v' W' v'' W'') : Step q v W v'' W'' := by
  have hz := h.out.size
  refine ⟨⟨Nat.le_trans h.out.size k.out.size, fun i hi hn => ?_⟩, h.bel.trans k.bel, fun i hi => ?_⟩
  · refine (k.out.block i (by omega) (fun e => ?_)).trans (h.out.block i hi hn)
    rcases e with e | e
    · exact hn (.inl e)
    · rcases h.own i e with e | e
      · exact hn (.inr e)
      · omega
  · rcases k.own i hi with e | e
    · exact h.own i e
    · exact .inr (by omega)
theorem Step.below {q : Nat} {v : Value} {W W' : World} (h : Below W.heap.size W W') (hq : q ≤ W.heap.size) : Step q v W v W' := ⟨⟨h.size, fun k hk _ => h.block k hk⟩, h.mono hq, fun i hi => .inl hi⟩
theorem Step.size {q : Nat} {v v' : Value} {W W' : World} (h : Step q v W v' W') : W.heap.size ≤ W'.heap.size := h.out.size

/-- Lists of numbers that the call itself has laid. -/
structure OwnLL (w : World) (base : Nat) (v : Value) (vs : List Value) (out : List (List Int)) : Prop where
  hdr : w.ownsRow base 33 1 v out.length vs
  row : ∀ (i : Nat) (u : Value) (l : List Int), vs[i]? = some u → out[i]? = some l → w.ownsRow base 3 1 u l.length (l.map (Value.int .i64))
def TabQ (w : World) (q H sets : Nat) (ls : List (List Offer)) : Prop :=
  H < q ∧ ∀ k, k ≤ ls.length → ∃ g, g < q ∧ w.cell? ⟨H, k, none⟩ = some (.slice (some ⟨g, 0, none⟩) sets sets) ∧ ∀ f, f < sets → w.cell? ⟨g, f, none⟩ = some (.int .i64 (bestW (ls.drop k) f))
/-- What the reference's going over stands on. -/
structure RS (q : Nat) (n : Int) (A : Option Addr) (c : Nat) (hs : List Hdr) (ls : List (List Offer)) (H sets most : Nat) (v : Value) (vs : List Value) (out : List (List Int)) (W : World) : Prop where
  blk : W.heap[q]? = some (.cells #[.int .i64 n, .slice A ls.length c, .slice (some ⟨H, 0, none⟩) (ls.length + 1) (ls.length + 1), .int .i64 (most : Int), v] 82 (0, 0))
  out : OwnLL W (q + 1) v vs out
  buys : Buys W q A hs ls
  tab : TabQ W q H sets ls
section
variable {W W' : World} {q : Nat} {n : Int} {A : Option Addr} {c : Nat} {hs : List Hdr} {ls : List (List Offer)} {H sets most : Nat} {v v' : Value} {vs : List Value} {out : List (List Int)}
theorem RS.cells (h : RS q n A c hs ls H sets most v vs out W) : W.cell? ⟨q, 0, none⟩ = some (.int .i64 n) ∧ W.cell? ⟨q, 1, none⟩ = some (.slice A ls.length c) ∧ W.cell? ⟨q, 2, none⟩ = some (.slice (some ⟨H, 0, none⟩) (ls.length + 1) (ls.length + 1)) ∧ W.cell? ⟨q, 3, none⟩ = some (.int .i64 (most : Int)) ∧ W.cell? ⟨q, 4, none⟩ = some v ∧ W.frozen? ⟨q, 4, none⟩ = false :=
  ⟨cell_of_row W q 0 _ _ (0, 0) h.blk, cell_of_row W q 1 _ _ (0, 0) h.blk, cell_of_row W q 2 _ _ (0, 0) h.blk, cell_of_row W q 3 _ _ (0, 0) h.blk, cell_of_row W q 4 _ _ (0, 0) h.blk, frozen_of_row W q 4 _ _ h.blk⟩
theorem TabQ.below (h : TabQ W q H sets ls) (hb : Below q W W') : TabQ W' q H sets ls := by
  refine ⟨h.1, fun k hk => ?_⟩
  obtain ⟨g, h1, h2, h3⟩ := h.2 k hk
  exact ⟨g, h1, (hb.cell (p := ⟨H, k, none⟩) h.1).trans h2, fun f hf => (hb.cell (p := ⟨g, f, none⟩) h1).trans (h3 f hf)⟩
theorem OwnLL.below {base : Nat} (h : OwnLL W base v vs out) (hb : Below W.heap.size W W') : OwnLL W' base v vs out := ⟨own_below h.hdr hb (Nat.le_refl _), fun i u l hu hl => own_below (h.row i u l hu hl) hb (Nat.le_refl _)⟩
theorem RS.lt (h : RS q n A c hs ls H sets most v vs out W) : q < W.heap.size := lt_of_block h.blk
theorem RS.below (h : RS q n A c hs ls H sets most v vs out W) (hb : Below W.heap.size W W') : RS q n A c hs ls H sets most v vs out W' :=
  ⟨(hb.block _ h.lt).trans h.blk, h.out.below hb, h.buys.below (hb.mono (Nat.le_of_lt h.lt)), h.tab.below (hb.mono (Nat.le_of_lt h.lt))⟩
/-- A row of ints of another one's is as it was. -/
theorem RS.keeps (h : RS q n A c hs ls H sets most v vs out W) (hs' : Step q v W v' W') {B m : Nat} {u : Value} {xs : List Value} (ho : W.ownsRow B 3 1 u m xs) : W'.ownsRow B 3 1 u m xs := by
  obtain ⟨h1, h2⟩ := ho
  refine ⟨h1, ?_⟩
  rcases h2 with h2 | ⟨g, cap, cur, a1, a2, a3, a4⟩
  · exact .inl h2
  · refine .inr ⟨g, cap, cur, a1, a2, (hs'.out.block g (lt_of_block a3) (fun e => ?_)).trans a3, a4⟩
    rcases e with rfl | e
    · rw [h.blk] at a3
      injection a3 with a3
      injection a3 with _ a3 _
      exact absurd a3 (by decide)
    · exact own_ne h.out.hdr a3 (fun cur' e' => by injection e' with _ e' _; exact absurd e' (by decide)) e
/-- A variable of one's own is as it was. -/
theorem RS.loc (h : RS q n A c hs ls H sets most v vs out W) (hs' : Step q v W v' W') {b : Nat} {cs : Array Value} {t : TypeId} (hb : W.heap[b]? = some (.cells cs t (0, 0))) (h1 : t ≠ 82) (h2 : t ≠ 33) : W'.heap[b]? = some (.cells cs t (0, 0)) := by
  refine (hs'.out.block b (lt_of_block hb) (fun e => ?_)).trans hb
  rcases e with rfl | e
  · rw [h.blk] at hb
    injection hb with hb
    injection hb with _ hb _
    exact h1 hb.symm
  · exact own_ne h.out.hdr hb (fun cur' e' => by injection e' with _ e' _; exact h2 e') e
/-- One list more. -/
theorem RS.push (h : RS q n A c hs ls H sets most v vs out W) {w1 w3 : World} {head : List Int} {u : Value} (hb1 : Below W.heap.size W w1) (hu : w1.ownsRow (q + 1) 3 1 u head.length (head.map (Value.int .i64))) (hown : w3.ownsRow (q + 1) 33 1 v' (out.length + 1) (vs ++ [u])) (hg : w1.grownBy w3 v.ownBlock)
    (hat : v'.ownBlock = v.ownBlock ∨ ∃ g, v'.ownBlock = some g ∧ w1.heap.size < g) :
    RS q n A c hs ls H sets most v' (vs ++ [u]) (out ++ [head]) (w3.setCell ⟨q, 4, none⟩ v') ∧ Step q v W v' (w3.setCell ⟨q, 4, none⟩ v') := by
  have h1 := h.below hb1
  have hq1 := h1.lt
  have hvq : v.ownBlock ≠ some q := own_ne h1.out.hdr h1.blk (fun cur e => by injection e with _ e _; exact absurd e (by decide))
  have hlow : ∀ k, v.ownBlock = some k → q + 1 ≤ k := fun k hk => (h1.out.hdr.lt k hk).1
  have hb3 : Below q w1 w3 := (Below.refl q w1).grown hg (Nat.le_of_lt hq1) (fun k hk => by have := hlow k hk; omega)
  have hblk3 : w3.heap[q]? = _ := (hg.block q hq1 (fun e => hvq e.symm)).trans h1.blk
  have hset : Below q w3 (w3.setCell ⟨q, 4, none⟩ v') := (Below.refl q w3).setCell (Nat.le_refl q) v'
  have hlen : vs.length = out.length := by have := h.out.hdr.1; simpa using this
  have hno : v'.ownBlock ≠ some q := fun e => by have := (hown.lt q e).1; omega
  have rk : ∀ {u' : Value} {m : Nat} {xs : List Value}, w1.ownsRow (q + 1) 3 1 u' m xs → (w3.setCell ⟨q, 4, none⟩ v').ownsRow (q + 1) 3 1 u' m xs := by
    intro u' m xs ho
    have ho3 : w3.ownsRow (q + 1) 3 1 u' m xs := by
      refine own_far ho hg ?_
      rcases hvb : v.ownBlock with _ | g
      · rcases ho.2 with ⟨rfl, _⟩ | ⟨g, cap, cur, rfl, _⟩
        · exact .inr rfl
        · exact .inl (by simp [Value.ownBlock])
      · left
        intro e
        obtain ⟨h6, h7⟩ := h1.out.hdr
        rcases h7 with ⟨rfl, _⟩ | ⟨g', cap', cur', rfl, _, h8, _⟩
        · simp [Value.ownBlock] at hvb
        · simp only [Value.ownBlock, Option.some.injEq] at hvb
          subst hvb
          exact own_ne ho h8 (fun cur e' => by injection e' with _ e' _; exact absurd e' (by decide)) e
    exact ownsRow_setCell_other ho3 (fun e => by have := (ho3.lt q e).1; omega) _
  refine ⟨⟨setCell_block hblk3 4 v', ⟨by rw [List.length_append]; exact ownsRow_setCell_other hown hno _, fun i u' l hu' hl' => ?_⟩, (h1.buys.below hb3).below hset, (h1.tab.below hb3).below hset⟩, ⟨?_, fun k hk hn => ?_⟩, ((hb1.mono (Nat.le_of_lt h.lt)).trans hb3).trans hset, fun i hi => ?_⟩
  · by_cases hi : i < vs.length
    · rw [List.getElem?_append_left hi] at hu'
      rw [List.getElem?_append_left (by omega)] at hl'
      exact rk (h1.out.row i u' l hu' hl')
    · rw [List.getElem?_append_right (by omega)] at hu' hl'
      rw [hlen] at hu'
      have hz : i - out.length = 0 := by
        by_cases hz : i - out.length = 0
        · exact hz
        · rw [List.getElem?_eq_none (by simp; omega)] at hu'
          cases hu'
      rw [hz] at hu' hl'
      simp at hu' hl'
      subst hu' hl'
      exact rk hu
  · have := hb1.size
    have := hg.size
    simp [World.setCell]
    omega
  · have hkq : k ≠ q := fun e => hn (.inl e)
    have hkv : v.ownBlock ≠ some k := fun e => hn (.inr e)
    exact ((Below.heap_setCell w3 _ _ _ hkq).trans (hg.block k (by have := hb1.size; omega) (fun e => hkv e.symm))).trans (hb1.block k hk)
  · rcases hat with e | ⟨g, e, hgt⟩
    · exact .inl (e ▸ hi)
    · rw [e] at hi
      injection hi with hi
      exact .inr (by have := hb1.size; omega)
end
/-- What comes of an inner call of the reference. -/
def OnR (q : Nat) (n : Int) (A : Option Addr) (c : Nat) (hs : List Hdr) (ls : List (List Offer)) (H sets most : Nat) (k f : Nat) (head : List Int) (v : Value) (out : List (List Int)) (W : World) (e : Ending) (W' : World) : Prop :=
  e = .returned (.tuple #[]) ∧ ∃ v' vs', RS q n A c hs ls H sets most v' vs' ((out ++ (choicesW (ls.drop k) f).map (fun d => head ++ d)).take most) W' ∧ Step q v W v' W'
theorem infoLI : EI Try.prog 33 (.slice none 0 0) 1 24 := by unfold EI; kernel_rfl

set_option maxRecDepth 100000 in
set_option maxHeartbeats 2000000 in
theorem onr_full (q : Nat) (n : Int) (A : Option Addr) (c : Nat) (hs : List Hdr) (ls : List (List Offer)) (H sets most : Nat) (k f : Nat) (head : List Int) (hv v : Value) (vs : List Value) (out : List (List Int)) (W : World) (h : RS q n A c hs ls H sets most v vs out W) (hm : out.length = most) :
    Calls Try.prog 40 #[.pointer (some ⟨q, 0, none⟩), .int .i64 (k : Int), .int .i64 (f : Int), hv] W (OnR q n A c hs ls H sets most k f head v out W) := by
  obtain ⟨c0, c1, c2, c3, c4, _⟩ := h.cells
  obtain ⟨A4, k4, rfl, _⟩ := own_sh h.out.hdr
  have HS := hide h
  have HM : Hid ((out ++ (choicesW (ls.drop k) f).map (fun d => head ++ d)).take most = out) := hide (by rw [List.take_append_of_le_length (by omega), List.take_of_length_le (by omega)])
  have hge : decide ((most : Int) ≤ (out.length : Int)) = true := decide_eq_true (by omega)
  have hge2 : decide (most ≤ out.length) = true := decide_eq_true (by omega)
  have hle : most ≤ out.length := by omega
  clear h hm
  go_enter Try.func40, Try.ntmps40
  go_wp2_with fail
  go_quiet (fail)
  go_wp2_with fail
  refine bodyPost_ret (results_none rfl _ _ _) rfl ?_
  exact ⟨rfl, _, vs, by rw [HM.out]; exact HS.out.below (below_drewN (Below.refl _ _) _), Step.below (below_drewN (Below.refl _ _) _) (Nat.le_of_lt HS.out.lt)⟩

set_option maxRecDepth 100000 in
set_option maxHeartbeats 4000000 in
theorem onr_leaf (q : Nat) (n : Int) (A : Option Addr) (c : Nat) (hs : List Hdr) (ls : List (List Offer)) (H sets most : Nat) (f : Nat) (head : List Int) (hb : Nat) (hv v : Value) (vs : List Value) (out : List (List Int)) (W : World) (h : RS q n A c hs ls H sets most v vs out W) (hm : out.length < most) (hmo : most ≤ 1000) (hll : ls.length ≤ 32)
    (hhd : W.ownsRow hb 3 1 hv head.length (head.map (Value.int .i64))) (hhl : head.length ≤ 32) :
    Calls Try.prog 40 #[.pointer (some ⟨q, 0, none⟩), .int .i64 (ls.length : Int), .int .i64 (f : Int), hv] W (OnR q n A c hs ls H sets most ls.length f head v out W) := by
  obtain ⟨c0, c1, c2, c3, c4, _⟩ := h.cells
  obtain ⟨A4, k4, rfl, _⟩ := own_sh h.out.hdr
  obtain ⟨A5, k5, rfl, _⟩ := own_sh hhd
  have HS := hide h
  have HHD := hide hhd
  have HM : Hid ((out ++ (choicesW (ls.drop ls.length) f).map (fun d => head ++ d)).take most = out ++ [head]) := hide (by
    rw [List.drop_length]
    simp only [choicesW, List.map_cons, List.map_nil, List.append_nil]
    exact List.take_of_length_le (by rw [List.length_append]; simp; omega))
  have hge : decide ((most : Int) ≤ (out.length : Int)) = false := decide_eq_false (by omega)
  have hge2 : decide (most ≤ out.length) = false := decide_eq_false (by omega)
  have hlt : ¬ most ≤ out.length := by omega
  have G1 : Hid (∀ u ∈ head.map (Value.int .i64), u.oneCell' = true) := hide (fun u hu => by obtain ⟨z, _, rfl⟩ := List.mem_map.1 hu; rfl)
  have G5 : Hid (0 + head.length ≤ maxLen) := hide (by unfold maxLen; omega)
  have G6 : Hid ((0 + head.length) * 8 ≤ 140737488355328) := hide (by omega)
  have G2 : Hid (∀ u : Value, u.oneCell' = true → ∀ x ∈ [u], x.oneCell' = true) := hide (fun u hu x hx => by simp at hx; subst hx; exact hu)
  have G7 : Hid (out.length + 1 ≤ maxLen) := hide (by unfold maxLen; omega)
  have G8 : Hid ((out.length + 1) * 24 ≤ 140737488355328) := hide (by omega)
  have HQL : Hid (q < W.heap.size) := hide h.lt
  clear h hm hhd hmo hhl
  go_enter Try.func40, Try.ntmps40
  go_wp2_with fail
  go_quiet (fail)
  go_wp2_with fail
  have hS0 : ((W.drewN nq).drew).cell? ⟨q, 4, none⟩ = some (.slice A4 out.length k4) := c4
  have HB3 : Hid (Below W.heap.size W ((W.drewN nq).drew)) := hide (below_drewN (Below.refl _ _) _).drew
  have HS3 := hide (HS.out.below HB3.out)
  have HH3 := hide (own_below HHD.out HB3.out (Nat.le_refl _))
  refine wp_region_U 11 (fun X => X.cell? ⟨q, 4, none⟩ = some (.slice A4 out.length k4)) rfl hS0 (fun hHeld => ?_)
  generalize (W.drewN nq).drew = w3 at *
  clear c0 c1 c2 c3 c4
  have HNI : Hid (w3.ownsRow w3.heap.size 3 1 (.slice none 0 0) 0 []) := hide (World.ownsRow_nil _ _ _ _)
  have HRD : Hid (Reads w3 w3.heap.size 1 A5 head.length (head.map (Value.int .i64))) := hide (Reads.of_own HH3.out)
  refine AnyU.take (i := 0) (v := ?v1) rfl (by kernel_rfl) (by kernel_rfl) (by kernel_rfl) (by kernel_rfl) (fun _ _ _ h => h) (Or.inl ⟨by rfl, ?hy1⟩) hHeld ?r1
  case hy1 => (intro w hSw; (try dsimp only at hSw); go_simp <;> with_reducible rfl)
  simp only [Act.put, List.setIfInBounds_toArray, List.set_cons_zero, List.set_cons_succ]
  refine AnyU.take (i := 1) (v := ?v2) rfl (by kernel_rfl) (by kernel_rfl) (by kernel_rfl) (by kernel_rfl) (fun _ _ _ h => h) (Or.inl ⟨by rfl, ?hy2⟩) hHeld ?r2
  case hy2 => (intro w hSw; (try dsimp only at hSw); go_simp <;> with_reducible rfl)
  simp only [Act.put, List.setIfInBounds_toArray, List.set_cons_zero, List.set_cons_succ]
  refine AnyU.take (i := 2) (v := ?v3) rfl (by kernel_rfl) (by kernel_rfl) (by kernel_rfl) (by kernel_rfl) (fun _ _ _ h => h) (Or.inl ⟨by rfl, ?hy3⟩) hHeld ?r3
  case hy3 => (intro w hSw; (try dsimp only at hSw); go_simp <;> with_reducible rfl)
  simp only [Act.put, List.setIfInBounds_toArray, List.set_cons_zero, List.set_cons_succ]
  refine AnyU.take (i := 3) (v := ?v4) rfl (by kernel_rfl) (by kernel_rfl) (by kernel_rfl) (by kernel_rfl) (fun _ _ _ h => h) (Or.inl ⟨by rfl, ?hy4⟩) hHeld ?r4
  case hy4 => (intro w hSw; (try dsimp only at hSw); go_simp <;> with_reducible rfl)
  simp only [Act.put, List.setIfInBounds_toArray, List.set_cons_zero, List.set_cons_succ]
  refine AnyU.take (i := 4) (v := ?v5) rfl (by kernel_rfl) (by kernel_rfl) (by kernel_rfl) (by kernel_rfl) (fun _ _ _ h => h) (Or.inl ⟨by rfl, ?hy5⟩) hHeld ?r5
  case hy5 => (intro w hSw; (try dsimp only at hSw); go_simp <;> with_reducible rfl)
  simp only [Act.put, List.setIfInBounds_toArray, List.set_cons_zero, List.set_cons_succ]
  refine AnyU.take (i := 5) (v := ?v6) rfl (by kernel_rfl) (by kernel_rfl) (by kernel_rfl) (by kernel_rfl) (fun _ _ _ h => h) (Or.inl ⟨by rfl, ?hy6⟩) hHeld ?r6
  case hy6 => (intro w hSw; (try dsimp only at hSw); go_simp <;> with_reducible rfl)
  simp only [Act.put, List.setIfInBounds_toArray, List.set_cons_zero, List.set_cons_succ]
  refine AnyU.next (js := [6]) (by kernel_rfl) (by simp) (NextU.cons rfl (fun K hK => ?_) NextU.nil)
  refine step_append_any rfl (.const (.slice none 0 0)) (.tmp 33) 33 rfl w3.heap.size 3 (.int .i64 0) 1 8 infoI Try.underlying33 rfl (by decide) _ 0 [] rfl HNI.out w3.heap.size A5 head.length k5 _ rfl HRD.out G1.out G5.out G6.out (Nat.le_refl _) ?_
  intro v1 w4 hown1 hg1 _
  rw [Nat.zero_add, List.nil_append] at hown1
  have hb4 : Below w3.heap.size w3 w4 := ⟨hg1.os, hg1.tape, hg1.output, hg1.size, fun k hk => hg1.block k hk (by intro e; cases e)⟩
  have HS4 := hide (HS3.out.below hb4)
  have HB4 : Hid (Below W.heap.size W w4) := hide (HB3.out.trans (hb4.mono HB3.out.size))
  have HW4 : Hid (w4.ownsRow (q + 1) 3 1 v1 head.length (head.map (Value.int .i64))) := hide (own_base hown1 (by have := HQL.out; have := HB3.out.size; omega))
  obtain ⟨A6, k6, hv6, _⟩ := own_sh hown1
  subst hv6
  have hS4 := HS4.out.cells.2.2.2.2.1
  have HSA : Hid ((w4.alloc (.cells #[.slice A6 head.length k6] 33)).cell? ⟨q, 4, none⟩ = some (.slice A4 out.length k4)) := hide ((HS4.out.below ((Below.refl _ _).alloc (Nat.le_refl _) _)).cells.2.2.2.2.1)
  clear hown1 hg1 hb4 hS0 hHeld
  refine hK.out _ _ (fun _ => hS4) (fun hHeld => ?_)
  replace hHeld := hHeld (by decide)
  try simp only [Act.put, List.setIfInBounds_toArray, List.set_cons_zero, List.set_cons_succ]
  refine AnyU.next (js := [7]) (by kernel_rfl) (by simp) (NextU.cons rfl (fun K hK => ?_) NextU.nil)
  go_simp
  refine hK.out _ _ (fun _ => HSA.out) (fun hHeld => ?_)
  replace hHeld := hHeld (by decide)
  try simp only [Act.put, List.setIfInBounds_toArray, List.set_cons_zero, List.set_cons_succ]
  refine AnyU.next (js := [8]) (by kernel_rfl) (by simp) (NextU.cons rfl (fun K hK => ?_) NextU.nil)
  refine step_app (news := [.slice A6 head.length k6]) rfl (.tmp 32) (.tmp 35) 54 rfl (q + 1) (.slice none 0 0) 1 24 infoLI Try.underlying54 rfl (by decide) _ _ _ rfl HS4.out.out.hdr 1 1 rfl rfl (G2.out _ rfl) G7.out G8.out (by have := HS4.out.lt; omega) ?_
  intro v' w5 hown hg hlt5 hat
  have hat2 : v'.ownBlock = (Value.slice A4 out.length k4).ownBlock ∨ ∃ g, v'.ownBlock = some g ∧ w4.heap.size < g := hat
  have HP := hide (HS4.out.push (Below.refl _ _) HW4.out hown hg hat2)
  have hq5 := (hg.block q HS4.out.lt (fun e => own_ne HS4.out.out.hdr HS4.out.blk (fun cur e' => by injection e' with _ e' _; exact absurd e' (by decide)) e.symm)).trans HS4.out.blk
  have d4 := cell_of_row w5 q 4 _ _ (0, 0) hq5
  have f4 := frozen_of_row w5 q 4 _ _ hq5
  simp at d4
  obtain ⟨A7, k7, hv7, _⟩ := own_sh hown
  subst hv7
  have HSB : Hid (w5.cell? ⟨q, 4, none⟩ = some (.slice A4 out.length k4)) := hide d4
  clear hown hg hlt5 hat hat2 hq5 hHeld hS4
  refine hK.out _ _ (fun _ => HSB.out) (fun hHeld => ?_)
  replace hHeld := hHeld (by decide)
  try simp only [Act.put, List.setIfInBounds_toArray, List.set_cons_zero, List.set_cons_succ]
  refine AnyU.next (js := [9]) (by kernel_rfl) (by simp) (NextU.cons rfl (fun K hK => ?_) NextU.nil)
  go_simp
  refine hK.out _ _ (fun _ => HSB.out) (fun hHeld => ?_)
  replace hHeld := hHeld (by decide)
  try simp only [Act.put, List.setIfInBounds_toArray, List.set_cons_zero, List.set_cons_succ]
  refine AnyU.next (js := [10]) (by kernel_rfl) (by simp) (NextU.cons rfl (fun K hK => ?_) NextU.nil)
  go_simp
  refine hK.out _ _ (fun _ => HSB.out) (fun hHeld => ?_)
  replace hHeld := hHeld (by decide)
  try simp only [Act.put, List.setIfInBounds_toArray, List.set_cons_zero, List.set_cons_succ]
  refine AnyU.next (js := [11]) (by kernel_rfl) (by simp) (NextU.cons rfl (fun K hK => ?_) NextU.nil)
  go_simp
  refine hK.out _ _ (fun h => absurd h (by decide)) (fun _ => ?_)
  clear hHeld d4 f4
  refine AnyU.over (by kernel_rfl) ?_ _
  go_wp2_with fail
  refine bodyPost_ret (results_none rfl _ _ _) rfl ?_
  exact ⟨rfl, _, _, by rw [HM.out]; exact HP.out.1, (Step.below HB4.out (Nat.le_of_lt HQL.out)).trans HP.out.2⟩
end Go.Proofs.Ytkjmpenaifhfjaa
