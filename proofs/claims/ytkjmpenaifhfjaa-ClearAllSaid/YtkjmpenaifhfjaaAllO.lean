/- The walk of clear.All's inner function where a choice is whole: it is told. -/
import Derived.Test.YtkjmpenaifhfjaaAllE
namespace Go.Proofs.Ytkjmpenaifhfjaa
open Go.RowKit Go.Maps Go.Shelf
open Go.ChangeMaps Go.WideMaps

attribute [local go_sem] Oper.semAt_some

/-- An append of a slice, at an operation of a drawn region in a fence. -/
theorem stepIn_append_any {F : Fence} {nF : Nat} {P : Program} {w : World} {ops : Array Oper} {o : Oper} {a : Act} {Q : Exit → Act → World → Prop} {K : Act → World → Prop} {E : Prop} (hgd : o.guard = none) (s x : Operand) (t : TypeId)
    (ho : o.op = .call { callee := .builtin .append, args := #[s, x], argTypes := #[t, t] })
    (base : Nat) (e : TypeId) (z : Value) (size bytes : Nat) (hE : EI P e z size bytes) (ht : P.underlying t = some (.slice e)) (hzs : z.cells.size = size) (hsz : 0 < size)
    (v : Value) (n : Nat) (xs : List Value) (hs : a.eval s = v) (hown : w.ownsRow base e size v n xs)
    (B : Nat) (A : Option Addr) (m c : Nat) (news : List Value) (hx : a.eval x = .slice A m c) (hr : Reads w B size A m news) (h1 : ∀ u ∈ news, u.oneCell' = true)
    (h63 : n + m ≤ maxLen) (hbytes : (n + m) * bytes ≤ 140737488355328) (hbase : base ≤ w.heap.size)
    (h : ∀ v' w', w'.ownsRow base e size v' (n + m) (xs ++ news) → w.grownBy w' v.ownBlock → (v'.ownBlock = v.ownBlock ∨ v'.ownBlock = some w.heap.size) → K (a.put o.dst v') w') :
    if Region.wanted o (yielded ops a.tmps) = true then Oper.wpIn F nF P o a w K Q else E := by
  have hw : Region.wanted o (yielded ops a.tmps) = true := by simp [Region.wanted, hgd]
  rw [if_pos hw]
  obtain ⟨v', w', hrun, h2, h3, h4⟩ := run_append_any (P := P) w base t o.type e z size bytes hE ht hzs hsz v n xs hown B A m c news hr h1 h63 hbytes hbase
  unfold Oper.wpIn
  refine ⟨by simp [Oper.about, ho, resolve, Target.leads, Sem.run_pure], ?_⟩
  rw [Oper.semAt_plain F _ _ (by rw [ho]; intro c hc'; cases hc')]
  simp [execOp, ho, resolve, invoke, builtin, hs, hx, hrun, Result.andThen]
  exact h v' w' h2 h3 h4

/-- What was told stands in memory of its own: what the inner function stands on is as it was. -/
theorem on_told {p : Nat → Prop} {S B cc yc bc xc oc l bp m : Nat} {n : Int} {A : Option Addr} {c : Nat} {hs : List Hdr} {ls : List (List Offer)} {cv v1 : Value} {head xs : List Int} {W w1 W3 : World} {q : Nat} {us : List Value} (hE : Env S B cc yc bc xc oc l bp m n A c hs ls cv head W) (hp : ∀ i, p i → B ≤ i ∧ i < S)
    (hb1 : Below W.heap.size W w1) (hw : w1.ownsRow W.heap.size 3 1 v1 q us) (ho : OutP (fun k => p k ∨ ownC (v1, xs) k) w1 W3) : OutP (fun i => p i ∨ cv.ownBlock = some i ∨ i = m) W W3 ∧ Env S B cc yc bc xc oc l bp m n A c hs ls cv head W3 := by
  have key : ∀ k, k < W.heap.size → ¬ p k → W3.heap[k]? = W.heap[k]? := fun k hk hn => (ho.block k (by have := hb1.size; omega) (fun h => h.elim hn (fun h => by have := (hw.lt k h).1; omega))).trans (hb1.block k hk)
  refine ⟨⟨by have := hb1.size; have := ho.size; omega, fun k hk hn => key k hk (fun h => hn (.inl h))⟩, hE.keep (fun k hk hor => key k hk (fun h => by have := hp k h; omega))⟩

set_option maxRecDepth 100000 in
set_option maxHeartbeats 2000000 in
theorem on_end {p : Nat → Prop} {all : List (List Int)} {J Jx : List (Value × List Int) → World → Prop} {S B cc yc bc xc oc l bp m base : Nat} {n : Int} {A : Option Addr} {c : Nat} {hs : List Hdr} {ls : List (List Offer)} {cv : Value} {W0 : World}
    (hS : S = W0.heap.size) (hbase : base ≤ S) (hp : ∀ i, p i → B ≤ i ∧ i < S) (hJ : LowFrom S J) (hl : ls.length ≤ 32)
    (hY : ∀ (pre : List (Value × List Int)) (x : Value × List Int) (W1 : World), J pre W1 → NextC base all pre x W1 → OutP p W0 W1 → ∀ m, YieldAt Fence.wide m Try.prog l (encC x) W1 fun e W' =>
      OutP (fun k => p k ∨ ownC x k) W1 W' ∧ ((e = .returned (.bool true) ∧ J (pre ++ [x]) W') ∨ (e = .returned (.bool false) ∧ Jx (pre ++ [x]) W')))
    (f : Nat) (head : List Int) (hh : head.length = ls.length) (pre : List (Value × List Int)) (W : World) (hE : Env S B cc yc bc xc oc l bp m n A c hs ls cv head W) (hj : J pre W) (ho : OutP p W0 W) (hpre : pre.map Prod.snd ++ [head] <+: all) :
    Calls Try.prog 44 #[.int .i64 (ls.length : Int), .int .u32 (f : Int), .pointer (some ⟨cc, 0, none⟩), .pointer (some ⟨yc, 0, none⟩), .pointer (some ⟨bc, 0, none⟩), .pointer (some ⟨xc, 0, none⟩), .pointer (some ⟨oc, 0, none⟩)] W (OnPost p all J Jx S B cc yc bc xc oc l bp m n A c hs ls cv head pre ls.length f W) := by
  obtain ⟨d0, d1, d2, d3, d4, d5⟩ := hE.cells
  obtain ⟨xs, hrow, hxs⟩ := hE.row
  have hxl : xs.length = ls.length := by have := hrow.1; simpa using this
  rw [hh, ← hxl, List.take_length] at hxs
  subst hxs
  obtain ⟨A1, c1, rfl, _⟩ := own_sh hrow
  have hrd : Reads W W.heap.size 1 A1 ls.length (xs.map (Value.int .i64)) := Reads.of_own hrow
  have hnil : W.ownsRow W.heap.size 3 1 (.slice none 0 0) 0 [] := World.ownsRow_nil _ _ _ _
  have HE := hide hE
  have HJ := hide hJ
  have HY := hide hY
  have HJJ := hide hj
  have HO := hide ho
  have HPR := hide hpre
  have HPP := hide hp
  have HRD := hide hrd
  have HNI := hide hnil
  have HRO := hide hrow
  have G1 : Hid (∀ u ∈ xs.map (Value.int .i64), u.oneCell' = true) := hide (fun u hu => by obtain ⟨z, _, rfl⟩ := List.mem_map.1 hu; rfl)
  have G5 : Hid (0 + ls.length ≤ maxLen) := hide (by unfold maxLen; omega)
  have G6 : Hid ((0 + ls.length) * 8 ≤ 140737488355328) := hide (by omega)
  have HSZ : Hid (S < W.heap.size) := hide hE.size
  have HDR : Hid (choicesW (ls.drop ls.length) f = [[]]) := hide (by rw [List.drop_length]; rfl)
  clear hE hJ hY hj ho hpre hp hrd hnil hrow d2 d3 d4 d5
  refine (callsIn_wide (n := 4)).1 ?_
  refine callsIn_of_wp Try.func44 rfl trivial ?_ rfl
  simp only [Try.ntmps44, List.size_toArray, List.length_cons, List.length_nil, Nat.reduceAdd, Nat.reduceSub, Array.replicate_succ, Array.replicate_zero, List.push_toArray, List.append_toArray, List.nil_append, List.cons_append]
  gi_wp2_with fail
  have hmx : Try.prog.follows .mixedOrders = true := by kernel_rfl
  refine wpIn_region_any hmx ?_
  change wpAnyIn _ _ _ _ _ _ _ _ _ (World.drew _)
  refine wpAnyIn_ready (rs := [0, 1]) (by kernel_rfl) (by simp) ?_
  refine AllReadyIn.cons rfl (fun K hK => ?_) (AllReadyIn.cons rfl (fun K hK => ?_) AllReadyIn.nil)
  · go_simp
    refine hK _ _ ?_
    clear hK K
    refine wpAnyIn_ready (rs := [1]) (by kernel_rfl) (by simp) ?_
    refine AllReadyIn.cons rfl (fun K hK => ?_) AllReadyIn.nil
    go_simp
    refine hK _ _ ?_
    clear hK K
    refine wpAnyIn_ready (rs := [2]) (by kernel_rfl) (by simp) ?_
    refine AllReadyIn.cons rfl (fun K hK => ?_) AllReadyIn.nil
    refine stepIn_append_any rfl (.const (.slice none 0 0)) (.tmp 18) 33 rfl W.heap.size 3 (.int .i64 0) 1 8 infoI Try.underlying33 rfl (by decide) _ 0 [] rfl HNI.out W.heap.size A1 ls.length c1 _ rfl HRD.out G1.out G5.out G6.out (Nat.le_refl _) ?_
    intro v1 w1 hown1 hg1 _
    refine hK _ _ ?_
    clear hK K
    rw [Nat.zero_add, List.nil_append] at hown1
    have hb1 : Below W.heap.size W w1 := ⟨hg1.os, hg1.tape, hg1.output, hg1.size, fun k hk => hg1.block k hk (by intro e; cases e)⟩
    have c1y := (hb1.cell (p := ⟨yc, 0, none⟩) (lt_of_cell d1)).trans d1
    have hnx : NextC base all pre (v1, xs) w1 := ⟨HPR.out, own_base (show w1.ownsRow W.heap.size 3 1 v1 xs.length (xs.map (Value.int .i64)) from hxl ▸ hown1) (by have := HSZ.out; omega)⟩
    obtain ⟨fn, tmps, assign, body, hyy, hR⟩ := HY.out pre (v1, xs) w1 (HJ.out _ _ _ HJJ.out (hb1.mono (by have := HSZ.out; omega))) hnx (HO.out.trans (OutP.of_below hb1)) 3
    simp only [encC] at hyy
    have HB1 := hide hb1
    have HW1 := hide hown1
    clear hb1 hg1 hown1 hnx
    refine wpAnyIn_ready (rs := [3]) (by kernel_rfl) (by simp) ?_
    refine AllReadyIn.cons rfl (fun K hK => ?_) AllReadyIn.nil
    go_simp
    refine hR.mono ?_
    rintro e W3 ⟨ho3, hJJ3⟩
    obtain ⟨b, rfl, hb3⟩ : ∃ b : Bool, e = .returned (.bool b) ∧ ((b = true ∧ J (pre ++ [(v1, xs)]) W3) ∨ (b = false ∧ Jx (pre ++ [(v1, xs)]) W3)) := by
      rcases hJJ3 with ⟨rfl, h⟩ | ⟨rfl, h⟩
      · exact ⟨true, rfl, .inl ⟨rfl, h⟩⟩
      · exact ⟨false, rfl, .inr ⟨rfl, h⟩⟩
    refine hK _ _ ?_
    have HT := hide (on_told HE.out HPP.out HB1.out HW1.out ho3)
    have HB3 := hide hb3
    clear hK K hR hyy hJJ3 hb3 ho3 c1y
    refine wpAnyIn_ready (rs := [4]) (by kernel_rfl) (by simp) ?_
    refine AllReadyIn.cons rfl (fun K hK => ?_) AllReadyIn.nil
    go_simp
    refine hK _ _ ?_
    clear hK K
    refine wpAnyIn_done (by kernel_rfl) ?_ _
    gi_wp2
    refine bodyPost_ret (v := .bool b) (by simp [results, Try.results44, go_sem]) rfl ?_
    refine ⟨HT.out.1, HT.out.2, b, pre ++ [(v1, xs)], rfl, ?_⟩
    have hsn : (pre ++ [(v1, xs)]).map Prod.snd = pre.map Prod.snd ++ [xs] := by simp
    rcases HB3.out with ⟨rfl, h⟩ | ⟨rfl, h⟩
    · exact .inl ⟨rfl, by rw [hsn, HDR.out]; simp, h⟩
    · exact .inr ⟨rfl, by rw [hsn]; exact HPR.out, h⟩
  · go_simp
    refine hK _ _ ?_
    clear hK K
    refine wpAnyIn_ready (rs := [0, 2]) (by kernel_rfl) (by simp) ?_
    refine AllReadyIn.cons rfl (fun K hK => ?_) (AllReadyIn.cons rfl (fun K hK => ?_) AllReadyIn.nil)
    · go_simp
      refine hK _ _ ?_
      clear hK K
      refine wpAnyIn_ready (rs := [2]) (by kernel_rfl) (by simp) ?_
      refine AllReadyIn.cons rfl (fun K hK => ?_) AllReadyIn.nil
      refine stepIn_append_any rfl (.const (.slice none 0 0)) (.tmp 18) 33 rfl W.heap.size 3 (.int .i64 0) 1 8 infoI Try.underlying33 rfl (by decide) _ 0 [] rfl HNI.out W.heap.size A1 ls.length c1 _ rfl HRD.out G1.out G5.out G6.out (Nat.le_refl _) ?_
      intro v1 w1 hown1 hg1 _
      refine hK _ _ ?_
      clear hK K
      rw [Nat.zero_add, List.nil_append] at hown1
      have hb1 : Below W.heap.size W w1 := ⟨hg1.os, hg1.tape, hg1.output, hg1.size, fun k hk => hg1.block k hk (by intro e; cases e)⟩
      have c1y := (hb1.cell (p := ⟨yc, 0, none⟩) (lt_of_cell d1)).trans d1
      have hnx : NextC base all pre (v1, xs) w1 := ⟨HPR.out, own_base (show w1.ownsRow W.heap.size 3 1 v1 xs.length (xs.map (Value.int .i64)) from hxl ▸ hown1) (by have := HSZ.out; omega)⟩
      obtain ⟨fn, tmps, assign, body, hyy, hR⟩ := HY.out pre (v1, xs) w1 (HJ.out _ _ _ HJJ.out (hb1.mono (by have := HSZ.out; omega))) hnx (HO.out.trans (OutP.of_below hb1)) 3
      simp only [encC] at hyy
      have HB1 := hide hb1
      have HW1 := hide hown1
      clear hb1 hg1 hown1 hnx
      refine wpAnyIn_ready (rs := [3]) (by kernel_rfl) (by simp) ?_
      refine AllReadyIn.cons rfl (fun K hK => ?_) AllReadyIn.nil
      go_simp
      refine hR.mono ?_
      rintro e W3 ⟨ho3, hJJ3⟩
      obtain ⟨b, rfl, hb3⟩ : ∃ b : Bool, e = .returned (.bool b) ∧ ((b = true ∧ J (pre ++ [(v1, xs)]) W3) ∨ (b = false ∧ Jx (pre ++ [(v1, xs)]) W3)) := by
        rcases hJJ3 with ⟨rfl, h⟩ | ⟨rfl, h⟩
        · exact ⟨true, rfl, .inl ⟨rfl, h⟩⟩
        · exact ⟨false, rfl, .inr ⟨rfl, h⟩⟩
      refine hK _ _ ?_
      have HT := hide (on_told HE.out HPP.out HB1.out HW1.out ho3)
      have HB3 := hide hb3
      clear hK K hR hyy hJJ3 hb3 ho3 c1y
      refine wpAnyIn_ready (rs := [4]) (by kernel_rfl) (by simp) ?_
      refine AllReadyIn.cons rfl (fun K hK => ?_) AllReadyIn.nil
      go_simp
      refine hK _ _ ?_
      clear hK K
      refine wpAnyIn_done (by kernel_rfl) ?_ _
      gi_wp2
      refine bodyPost_ret (v := .bool b) (by simp [results, Try.results44, go_sem]) rfl ?_
      refine ⟨HT.out.1, HT.out.2, b, pre ++ [(v1, xs)], rfl, ?_⟩
      have hsn : (pre ++ [(v1, xs)]).map Prod.snd = pre.map Prod.snd ++ [xs] := by simp
      rcases HB3.out with ⟨rfl, h⟩ | ⟨rfl, h⟩
      · exact .inl ⟨rfl, by rw [hsn, HDR.out]; simp, h⟩
      · exact .inr ⟨rfl, by rw [hsn]; exact HPR.out, h⟩
    · refine stepIn_append_any rfl (.const (.slice none 0 0)) (.tmp 18) 33 rfl W.heap.size 3 (.int .i64 0) 1 8 infoI Try.underlying33 rfl (by decide) _ 0 [] rfl HNI.out W.heap.size A1 ls.length c1 _ rfl HRD.out G1.out G5.out G6.out (Nat.le_refl _) ?_
      intro v1 w1 hown1 hg1 _
      refine hK _ _ ?_
      clear hK K
      rw [Nat.zero_add, List.nil_append] at hown1
      have hb1 : Below W.heap.size W w1 := ⟨hg1.os, hg1.tape, hg1.output, hg1.size, fun k hk => hg1.block k hk (by intro e; cases e)⟩
      have c1y := (hb1.cell (p := ⟨yc, 0, none⟩) (lt_of_cell d1)).trans d1
      have hnx : NextC base all pre (v1, xs) w1 := ⟨HPR.out, own_base (show w1.ownsRow W.heap.size 3 1 v1 xs.length (xs.map (Value.int .i64)) from hxl ▸ hown1) (by have := HSZ.out; omega)⟩
      obtain ⟨fn, tmps, assign, body, hyy, hR⟩ := HY.out pre (v1, xs) w1 (HJ.out _ _ _ HJJ.out (hb1.mono (by have := HSZ.out; omega))) hnx (HO.out.trans (OutP.of_below hb1)) 3
      simp only [encC] at hyy
      have HB1 := hide hb1
      have HW1 := hide hown1
      clear hb1 hg1 hown1 hnx
      refine wpAnyIn_ready (rs := [0]) (by kernel_rfl) (by simp) ?_
      refine AllReadyIn.cons rfl (fun K hK => ?_) AllReadyIn.nil
      go_simp
      refine hK _ _ ?_
      clear hK K
      refine wpAnyIn_ready (rs := [3]) (by kernel_rfl) (by simp) ?_
      refine AllReadyIn.cons rfl (fun K hK => ?_) AllReadyIn.nil
      go_simp
      refine hR.mono ?_
      rintro e W3 ⟨ho3, hJJ3⟩
      obtain ⟨b, rfl, hb3⟩ : ∃ b : Bool, e = .returned (.bool b) ∧ ((b = true ∧ J (pre ++ [(v1, xs)]) W3) ∨ (b = false ∧ Jx (pre ++ [(v1, xs)]) W3)) := by
        rcases hJJ3 with ⟨rfl, h⟩ | ⟨rfl, h⟩
        · exact ⟨true, rfl, .inl ⟨rfl, h⟩⟩
        · exact ⟨false, rfl, .inr ⟨rfl, h⟩⟩
      refine hK _ _ ?_
      have HT := hide (on_told HE.out HPP.out HB1.out HW1.out ho3)
      have HB3 := hide hb3
      clear hK K hR hyy hJJ3 hb3 ho3 c1y
      refine wpAnyIn_ready (rs := [4]) (by kernel_rfl) (by simp) ?_
      refine AllReadyIn.cons rfl (fun K hK => ?_) AllReadyIn.nil
      go_simp
      refine hK _ _ ?_
      clear hK K
      refine wpAnyIn_done (by kernel_rfl) ?_ _
      gi_wp2
      refine bodyPost_ret (v := .bool b) (by simp [results, Try.results44, go_sem]) rfl ?_
      refine ⟨HT.out.1, HT.out.2, b, pre ++ [(v1, xs)], rfl, ?_⟩
      have hsn : (pre ++ [(v1, xs)]).map Prod.snd = pre.map Prod.snd ++ [xs] := by simp
      rcases HB3.out with ⟨rfl, h⟩ | ⟨rfl, h⟩
      · exact .inl ⟨rfl, by rw [hsn, HDR.out]; simp, h⟩
      · exact .inr ⟨rfl, by rw [hsn]; exact HPR.out, h⟩
end Go.Proofs.Ytkjmpenaifhfjaa
