/- The walk of goods.Text. -/
import Derived.Test.YtffpiaipdeebcaaDoorGd4
import Derived.Test.YtffpiaipdeebcaaDoorLay7
namespace Go.Proofs.YtffpiaipdeebcaaDoor
open Go.RowKit Go.Maps Go.Shelf
open Go.ChangeMaps Go.WideMaps

attribute [local go_sem] Oper.semAt_some

/-- An append of a slice, at an operation of a drawn region in a fence. -/
theorem stepIn_append_any {F : Fence} {nF : Nat} {P : Program} {w : World} {ops : Array Oper} {o : Oper} {a : Act} {Q : Exit → Act → World → Prop} {K : Act → World → Prop} {E : Prop} (hgd : o.guard = none) (s x : Operand) (t : TypeId)
    (ho : o.op = .call { callee := .builtin .append, args := #[s, x], argTypes := #[t, t] })
    (base : Nat) (e : TypeId) (z : Value) (size bytes : Nat) (hE : EI P e z size bytes) (ht : P.underlying t = some (.slice e)) (hzs : z.cells.size = size) (hsz : 0 < size)
    (v : Value) (n : Nat) (xs : List Value) (hs : a.eval s = v) (hown : w.ownsRow base e size v n xs)
    (B : Nat) (A : Option Addr) (m c : Nat) (news : List Value) (hx : a.eval x = .slice A m c) (hr : Reads w B size A m news) (h1 : ∀ u ∈ news, u.oneCell' = true)
    (h63 : n + m ≤ maxLen) (hbytes : (n + m) * bytes ≤ 140737488355328) (hbase : base ≤ w.heap.size)
    (h : ∀ v' w', w'.ownsRow base e size v' (n + m) (xs ++ news) → w.grownBy w' v.ownBlock → (v'.ownBlock = v.ownBlock ∨ v'.ownBlock = some w.heap.size) → K (a.put o.dst v') w') :
    if Region.wanted o (yielded ops a.tmps) = true then Oper.wpIn F nF P o a w K Q else E := by
  have hw : Region.wanted o (yielded ops a.tmps) = true := by simp [Region.wanted, hgd]
  rw [if_pos hw]
  obtain ⟨v', w', hrun, h2, h3, h4⟩ := run_append_any (P := P) w base t o.type e z size bytes hE ht hzs hsz v n xs hown B A m c news hr h1 h63 hbytes hbase
  unfold Oper.wpIn
  refine ⟨by simp [Oper.about, ho, resolve, Target.leads, Sem.run_pure], ?_⟩
  rw [Oper.semAt_plain F _ _ (by rw [ho]; intro c hc'; cases hc')]
  simp [execOp, ho, resolve, invoke, builtin, hs, hx, hrun, Result.andThen]
  exact h v' w' h2 h3 h4

/-- A good's numeral. -/
def numL (i : Nat) : ByteArray := ⟨(Lib.decDigits i).toArray⟩
abbrev strV (b : ByteArray) : Value := .string b
/-- A set's text. -/
def textG (s : Nat) : ByteArray := if s = 0 then ⟨#[45]⟩ else ⟨(Lib.join (((eachL s).map numL).map (·.data.toList)) [32]).toArray⟩
theorem infoS : EI Tryd.prog 9 (.string ⟨#[]⟩) 1 16 := by unfold EI; kernel_rfl
def valL (pre : List (Fin 32)) : List Nat := pre.map (·.val)
theorem valL_snoc (pre : List (Fin 32)) (x : Fin 32) : valL (pre ++ [x]) = valL pre ++ [x.val] := by simp [valL]
theorem digits_len {i : Nat} (h : i < 32) : (Lib.decDigits i).length ≤ 2 := by
  by_cases h1 : i < 10
  · rw [Lib.decDigits, dif_pos h1]
    simp
  · rw [Lib.decDigits, dif_neg h1, Lib.decDigits, dif_pos (show i / 10 < 10 by omega)]
    simp
theorem lens_le : ∀ (xs : List (List UInt8)), (∀ x ∈ xs, x.length ≤ 2) → Lib.lens xs ≤ 2 * xs.length
  | [], _ => by simp [Lib.lens]
  | x :: xs, h => by
    have h1 := lens_le xs (fun y hy => h y (List.mem_cons_of_mem _ hy))
    have h2 := h x (List.mem_cons_self ..)
    simp [Lib.lens] at *
    omega
theorem text_len {L : List Nat} (h : ∀ i ∈ L, i < 32) (hl : L.length ≤ 32) : (Lib.join ((L.map numL).map (·.data.toList)) [32]).length ≤ 140737488355328 := by
  have hx : ∀ x ∈ (L.map numL).map (·.data.toList), x.length ≤ 2 := by
    intro x hx
    simp only [List.map_map, List.mem_map] at hx
    obtain ⟨i, hi, rfl⟩ := hx
    exact digits_len (h i hi)
  have h1 := lens_le _ hx
  have hlen : ((L.map numL).map (·.data.toList)).length = L.length := by simp
  rw [hlen] at h1
  cases hL : (L.map numL).map (·.data.toList) with
  | nil => simp [Lib.join, List.intercalate]
  | cons y ys =>
    rw [hL] at h1 hlen
    rw [Lib.join_length]
    simp at hlen ⊢
    omega
/-- What Text's loop holds. -/
structure TxI (w : World) (L : List Nat) (W : World) : Prop where
  bel : Below w.heap.size w W
  cel : ∃ v, W.heap[w.heap.size + 1]? = some (.cells #[v] 82 (0, 0)) ∧ W.ownsRow w.heap.size 9 1 v L.length ((L.map numL).map strV)
  tab : TabW W
theorem TxI.own {w W W' : World} {L : List Nat} {row : Option Nat} {B : Nat} (h : TxI w L W) (hB : w.heap.size + 1 < B) (hg : W.grownBy W' row) (hr : ∀ r, row = some r → B ≤ r ∧ ∃ o : Obj, W.heap[r]? = some o ∧ o.isCells = false) : TxI w L W' := by
  have hr2 := fun r e => (hr r e).2
  obtain ⟨v, h1, h2⟩ := h.cel
  refine ⟨h.bel.grown hg h.bel.size (fun k e => by have := (hr k e).1; omega), ⟨v, (hg.block _ (lt_of_block h1) (fun e => by have := (hr _ e.symm).1; omega)).trans h1, ?_⟩, fun j hj => cell_kept (h.tab j hj) hg hr2⟩
  refine own_far h2 hg ?_
  cases hrow : row with
  | none =>
    cases hv : v.ownBlock with
    | none => exact .inr rfl
    | some g => exact .inl (by simp)
  | some r =>
    obtain ⟨_, o, ho, hc⟩ := hr r hrow
    exact .inl (own_ne h2 ho (fun cur e => by rw [e] at hc; cases hc))
theorem addr07 (g j : Nat) : (⟨g, 0, none⟩ : Addr).add j = ⟨g, j, none⟩ := by unfold Addr.add; split <;> simp_all
/-- The cell of the list stands when the list's row grows. -/
theorem tx_cell {Z w1 : World} {lc B n : Nat} {v : Value} {xs : List Value} (hb : Z.heap[lc]? = some (.cells #[v] 82 (0, 0))) (ho : Z.ownsRow B 9 1 v n xs) (hg : Z.grownBy w1 v.ownBlock) : w1.cell? ⟨lc, 0, none⟩ = some v ∧ w1.frozen? ⟨lc, 0, none⟩ = false := by
  have h := (hg.block lc (lt_of_block hb) (Ne.symm (own_ne ho hb (fun cur e => by simp at e)))).trans hb
  exact ⟨cell_of_row w1 lc 0 _ _ (0, 0) h, frozen_of_row _ _ _ _ _ h⟩
theorem tx_push {w W Z w1 : World} {L : List Nat} {v v1 : Value} {i : Nat} (hTl : 0 < w.heap.size) (h : TxI w L W) (hbz : Below W.heap.size W Z) (hkz : KeepsOthers W Z) (hb : Z.heap[w.heap.size + 1]? = some (.cells #[v] 82 (0, 0)))
    (ho : Z.ownsRow w.heap.size 9 1 v L.length ((L.map numL).map strV)) (hg : Z.grownBy w1 v.ownBlock) (ho1 : w1.ownsRow w.heap.size 9 1 v1 (L.length + 1) ((L.map numL).map strV ++ [strV (numL i)])) :
    KeepsOthers W (w1.setCell ⟨w.heap.size + 1, 0, none⟩ v1) ∧ KT W (w1.setCell ⟨w.heap.size + 1, 0, none⟩ v1) ∧ TxI w (L ++ [i]) (w1.setCell ⟨w.heap.size + 1, 0, none⟩ v1) := by
  have hkt : KT W (w1.setCell ⟨w.heap.size + 1, 0, none⟩ v1) := fun hTW => by
    refine TabW.keep (TabW.keep (hTW.below hbz) hg (fun e => ?_)) grown_setW (fun e => ?_)
    · have := (ho.lt _ e).1
      omega
    · have := Option.some.inj e
      simp only at this
      omega
  have hb1 := (hg.block _ (lt_of_block hb) (Ne.symm (own_ne ho hb (fun cur e => by simp at e)))).trans hb
  refine ⟨(hkz.trans (KeepsOthers.of_grownBy hg (fun j o e hj => ?_))).trans (KeepsOthers.setCell _ _ _), hkt, ⟨?_, ⟨v1, ?_, ?_⟩, hkt h.tab⟩⟩
  · rcases ho.2 with ⟨rfl, _⟩ | ⟨g, cap, cur, rfl, _, hh, _⟩
    · simp [Value.ownBlock] at e
    · have e2 : g = j := by simpa [Value.ownBlock] using e
      subst e2
      rw [hh] at hj
      rw [← Option.some.inj hj]
      rfl
  · refine Below.setCell ?_ (by show w.heap.size ≤ w.heap.size + 1; omega) _
    exact (h.bel.trans (hbz.mono h.bel.size)).grown hg (by have := h.bel.size; have := hbz.size; omega) (fun j e => (ho.lt j e).1)
  · exact setCell_block hb1 0 v1
  · have h5 : w1.ownsRow w.heap.size 9 1 v1 (L ++ [i]).length (((L ++ [i]).map numL).map strV) := by
      rw [List.length_append, List.map_append, List.map_append]
      exact ho1
    exact ownsRow_setCell_other h5 (fun e => absurd e (own_ne h5 hb1 (fun cur e => by simp at e))) _
set_option maxRecDepth 100000 in
set_option maxHeartbeats 4000000 in
theorem text_any (s : Nat) (hs : s < 4294967296) (w : World) (hT : TabW w) : Calls Tryd.prog 23 #[.int .u32 (s : Int)] w (ValPost (.string (textG s)) w) := by
  have HT := hide hT
  have HTX : Hid (textG s = if s = 0 then ⟨#[45]⟩ else ⟨(Lib.join (((eachL s).map numL).map (·.data.toList)) [32]).toArray⟩) := hide rfl
  obtain ⟨r, hr⟩ : ∃ r, textG s = r := ⟨_, rfl⟩
  rw [hr] at HTX ⊢
  clear hr hT
  refine (callsIn_wide (n := 5)).1 ?_
  refine callsIn_of_wp_marks Tryd.func23 rfl trivial ?_ rfl
  simp only [Tryd.ntmps23, List.size_toArray, List.length_cons, List.length_nil, Nat.reduceAdd, Nat.reduceSub, Array.replicate_succ, Array.replicate_zero, List.push_toArray, List.append_toArray, List.nil_append, List.cons_append]
  by_cases h0 : s = 0
  · subst h0
    have HE : Hid (r = ⟨#[45]⟩) := hide (by rw [HTX.out, if_pos rfl])
    gi_wp2_with fail
    exact leaves_marks [] w (MarkOk.nil w.heap.size w) (fun w' hw' => ⟨.string ⟨#[45]⟩, by simp [results, Tryd.results23, go_sem], by rw [HE.out], hw'⟩)
  · have HE : Hid (r = ⟨(Lib.join (((eachL s).map numL).map (·.data.toList)) [32]).toArray⟩) := hide (by rw [HTX.out, if_neg h0])
    have h0i : ((s : Int) == 0) = false := by rw [beq_eq_false_iff_ne]; omega
    gi_wp2_with (refine ⟨trivial, ?_⟩; gi_at_call 29; refine (callsIn_wide.2 (each_any s _)).mono ?_; rintro e _ ⟨rfl, rfl⟩)
    have HB0 : Hid (Below w.heap.size w (((w.alloc (.cells #[] 9)).alloc (.cells #[.slice (some ⟨w.heap.size, 0, none⟩) 0 0] 82)).alloc (.cells #[.int .u32 (s : Int)] 25))) := hide ((((Below.refl _ _).alloc (Nat.le_refl _) _).alloc (by simp) _).alloc (by simp <;> omega) _)
    have HI0 : Hid (TxI w [] (((w.alloc (.cells #[] 9)).alloc (.cells #[.slice (some ⟨w.heap.size, 0, none⟩) 0 0] 82)).alloc (.cells #[.int .u32 (s : Int)] 25))) := hide (by
      refine ⟨HB0.out, ⟨_, (Below.heap_alloc _ _ _ (by simp)).trans (by have := heap_alloc_new (w.alloc (.cells #[] 9)) (.cells #[.slice (some ⟨w.heap.size, 0, none⟩) 0 0] 82); simpa using this), ?_⟩, HT.out.below HB0.out⟩
      exact own_below (World.ownsRow_made w #[] 0 (Nat.le_refl _) (by decide) rfl) (((Below.refl _ _).alloc (Nat.le_refl _) _).alloc (by simp) _) (Nat.le_refl _))
    have hbq : (((w.alloc (.cells #[] 9)).alloc (.cells #[.slice (some ⟨w.heap.size, 0, none⟩) 0 0] 82)).alloc (.cells #[.int .u32 (s : Int)] 25)).heap[w.heap.size + 1 + 1]? = some (.cells #[.int .u32 (s : Int)] 25 (0, 0)) := by
      have := heap_alloc_new ((w.alloc (.cells #[] 9)).alloc (.cells #[.slice (some ⟨w.heap.size, 0, none⟩) 0 0] 82)) (.cells #[.int .u32 (s : Int)] 25)
      simpa using this
    have hszq : (((w.alloc (.cells #[] 9)).alloc (.cells #[.slice (some ⟨w.heap.size, 0, none⟩) 0 0] 82)).alloc (.cells #[.int .u32 (s : Int)] 25)).heap.size = w.heap.size + 3 := by simp
    generalize ((w.alloc (.cells #[] 9)).alloc (.cells #[.slice (some ⟨w.heap.size, 0, none⟩) 0 0] 82)).alloc (.cells #[.int .u32 (s : Int)] 25) = wq at *
    refine wpIn_rangeFunc_ownF (α := Fin 32) (encs := encE) (Kp := KT) rfl (by omega) (gf := 49) (lb := #[.pointer (some ⟨w.heap.size + 1 + 1, 0, none⟩)]) rfl trivial (enters_of Tryd.func49 (by kernel_rfl) rfl)
      (each_stops (k := 2) (w.heap.size + 1 + 1) s hs wq hbq HI0.out.tab) (fun h k => KT.t h k) (fun W l o o' _ h hc _ => KT.b W l o o' h hc) (Below.refl _ _) (fun _ => rfl)
      (fun pre W => TxI w (valL pre) W) (fun _ _ _ => False)
      (fun s W W' row hs hg hr => TxI.own hs (by omega) hg hr) (fun _ _ _ _ _ hs _ _ => hs)
      HI0.out (fun x => { tmps := #[.int .u32 (s : Int), undef, .string ⟨#[]⟩, .pointer (some ⟨w.heap.size + 1, 0, none⟩), .int .i64 (x.val : Int), .int .u32 (s : Int), .bool false, .slice (some ⟨w.heap.size, 0, none⟩) 0 0, .int .u32 (s : Int), .func (.func 49) #[] #[.pointer (some ⟨w.heap.size + 1 + 1, 0, none⟩)], .int .i64 (x.val : Int), undef, undef, undef, undef, undef, undef, undef], defers := [] }) ?assign ?body ?done ?stop
    case assign =>
      intro l x W K hK
      simp only [encE]
      gi_wp2
      exact hK
    case body =>
      rintro l pre x W hI3 hpl
      have HI3 := hide hI3
      obtain ⟨v, hblk, hown⟩ := hI3.cel
      obtain ⟨L, hL⟩ : ∃ L : List Nat, valL pre = L := ⟨_, rfl⟩
      rw [hL] at HI3 hown
      have HLE := hide hL
      have HSZ := hide HI3.out.bel.size
      have hpl2 : L.length ≤ 32 := by rw [← hL]; unfold valL; rw [List.length_map]; omega
      have HZB : Hid (Below W.heap.size W (W.drew.alloc (.cells #[strV (numL x.val)] 9))) := hide ((Below.refl _ _).drew.alloc (Nat.le_refl _) _)
      have HZK : Hid (KeepsOthers W (W.drew.alloc (.cells #[strV (numL x.val)] 9))) := hide ((KeepsOthers.drew W).trans (KeepsOthers.alloc _ _))
      have HBK : Hid ((W.drew.alloc (.cells #[strV (numL x.val)] 9)).heap[w.heap.size + 1]? = some (.cells #[v] 82 (0, 0))) := hide ((HZB.out.block _ (lt_of_block hblk)).trans hblk)
      have HOZ : Hid ((W.drew.alloc (.cells #[strV (numL x.val)] 9)).ownsRow w.heap.size 9 1 v L.length ((L.map numL).map strV)) := hide (own_below hown HZB.out (Nat.le_refl _))
      have HNZ : Hid ((W.drew.alloc (.cells #[strV (numL x.val)] 9)).heap[W.heap.size]? = some (.cells #[strV (numL x.val)] 9 (0, 0))) := hide (heap_alloc_new W.drew _)
      have c0 := cell_of_row W _ 0 _ _ (0, 0) hblk
      have c1 := fun o => ((Below.refl W.heap.size W).alloc (Nat.le_refl _) o).cell (p := ⟨w.heap.size + 1, 0, none⟩) (lt_of_block hblk) |>.trans c0
      simp only [List.getElem?_toArray, List.getElem?_cons_zero] at c0 c1
      have G1 : Hid (∀ u ∈ [strV (numL x.val)], u.oneCell' = true) := hide (fun u hu => by simp at hu; subst hu; rfl)
      have G2 : Hid (L.length + 1 ≤ maxLen) := hide (by unfold maxLen; omega)
      have G3 : Hid ((L.length + 1) * 16 ≤ 140737488355328) := hide (by omega)
      have hmx : Tryd.prog.follows .mixedOrders = true := by kernel_rfl
      clear hblk hown hpl hpl2 hL
      gi_wp2_with fail
      refine wpIn_region_any hmx ?_
      change wpAnyIn _ _ _ _ _ _ _ _ _ (World.drew _)
      refine wpAnyIn_ready (rs := [0, 1]) (by kernel_rfl) (by simp) ?_
      refine AllReadyIn.cons rfl (fun K hK => ?_) (AllReadyIn.cons rfl (fun K hK => ?_) AllReadyIn.nil)
      · go_simp
        refine hK _ _ ?_
        clear hK K
        refine wpAnyIn_ready (rs := [1]) (by kernel_rfl) (by simp) ?_
        refine AllReadyIn.cons rfl (fun K hK => ?_) AllReadyIn.nil
        go_simp
        refine hK _ _ ?_
        clear hK K
        refine wpAnyIn_ready (rs := [2]) (by kernel_rfl) (by simp) ?_
        refine AllReadyIn.cons rfl (fun K hK => ?_) AllReadyIn.nil
        go_simp
        refine ⟨trivial, ?_⟩
        refine (callsIn_wide.2 (shelf_strconv_Itoa_small x.val (by have := x.2; omega) _)).mono ?_
        rintro e W3 ⟨rfl, rfl⟩
        refine hK _ _ ?_
        clear hK K
        refine wpAnyIn_ready (rs := [3]) (by kernel_rfl) (by simp) ?_
        refine AllReadyIn.cons rfl (fun K hK => ?_) AllReadyIn.nil
        go_simp
        refine hK _ _ ?_
        clear hK K
        refine wpAnyIn_ready (rs := [4]) (by kernel_rfl) (by simp) ?_
        refine AllReadyIn.cons rfl (fun K hK => ?_) AllReadyIn.nil
        refine stepIn_append_any rfl (.tmp 11) (.tmp 14) 82 rfl w.heap.size 9 (.string ⟨#[]⟩) 1 16 infoS Tryd.underlying82 rfl (by decide) _ L.length ((L.map numL).map strV) rfl HOZ.out _ (some ⟨W.heap.size, 0, none⟩) 1 1 [strV (numL x.val)] rfl (reads_row7 (xs := [strV (numL x.val)]) HNZ.out rfl) G1.out G2.out G3.out (by have := HSZ.out; simp; omega) ?_
        intro v1 w1 hown1 hg1 _
        obtain ⟨A1, c1, hv1, _⟩ := own_sh hown1
        subst hv1
        have HG1 := hide hg1
        have HO1 := hide hown1
        obtain ⟨y1, y2⟩ := tx_cell HBK.out HOZ.out HG1.out
        refine hK _ _ ?_
        clear hK K
        refine wpAnyIn_ready (rs := [5]) (by kernel_rfl) (by simp) ?_
        refine AllReadyIn.cons rfl (fun K hK => ?_) AllReadyIn.nil
        go_simp
        refine hK _ _ ?_
        clear hK K
        refine wpAnyIn_done (by kernel_rfl) ?_ _
        gi_wp2
        have P := tx_push HT.out.lt HI3.out HZB.out HZK.out HBK.out HOZ.out HG1.out HO1.out
        exact ⟨P.1, P.2.1, by show TxI w (valL (pre ++ [x])) _; rw [valL_snoc, HLE.out]; exact P.2.2⟩
      · go_simp
        refine hK _ _ ?_
        clear hK K
        refine wpAnyIn_ready (rs := [0, 2]) (by kernel_rfl) (by simp) ?_
        refine AllReadyIn.cons rfl (fun K hK => ?_) (AllReadyIn.cons rfl (fun K hK => ?_) AllReadyIn.nil)
        · go_simp
          refine hK _ _ ?_
          clear hK K
          refine wpAnyIn_ready (rs := [2]) (by kernel_rfl) (by simp) ?_
          refine AllReadyIn.cons rfl (fun K hK => ?_) AllReadyIn.nil
          go_simp
          refine ⟨trivial, ?_⟩
          refine (callsIn_wide.2 (shelf_strconv_Itoa_small x.val (by have := x.2; omega) _)).mono ?_
          rintro e W3 ⟨rfl, rfl⟩
          refine hK _ _ ?_
          clear hK K
          refine wpAnyIn_ready (rs := [3]) (by kernel_rfl) (by simp) ?_
          refine AllReadyIn.cons rfl (fun K hK => ?_) AllReadyIn.nil
          go_simp
          refine hK _ _ ?_
          clear hK K
          refine wpAnyIn_ready (rs := [4]) (by kernel_rfl) (by simp) ?_
          refine AllReadyIn.cons rfl (fun K hK => ?_) AllReadyIn.nil
          refine stepIn_append_any rfl (.tmp 11) (.tmp 14) 82 rfl w.heap.size 9 (.string ⟨#[]⟩) 1 16 infoS Tryd.underlying82 rfl (by decide) _ L.length ((L.map numL).map strV) rfl HOZ.out _ (some ⟨W.heap.size, 0, none⟩) 1 1 [strV (numL x.val)] rfl (reads_row7 (xs := [strV (numL x.val)]) HNZ.out rfl) G1.out G2.out G3.out (by have := HSZ.out; simp; omega) ?_
          intro v1 w1 hown1 hg1 _
          obtain ⟨A1, c1, hv1, _⟩ := own_sh hown1
          subst hv1
          have HG1 := hide hg1
          have HO1 := hide hown1
          obtain ⟨y1, y2⟩ := tx_cell HBK.out HOZ.out HG1.out
          refine hK _ _ ?_
          clear hK K
          refine wpAnyIn_ready (rs := [5]) (by kernel_rfl) (by simp) ?_
          refine AllReadyIn.cons rfl (fun K hK => ?_) AllReadyIn.nil
          go_simp
          refine hK _ _ ?_
          clear hK K
          refine wpAnyIn_done (by kernel_rfl) ?_ _
          gi_wp2
          have P := tx_push HT.out.lt HI3.out HZB.out HZK.out HBK.out HOZ.out HG1.out HO1.out
          exact ⟨P.1, P.2.1, by show TxI w (valL (pre ++ [x])) _; rw [valL_snoc, HLE.out]; exact P.2.2⟩
        · go_simp
          refine ⟨trivial, ?_⟩
          refine (callsIn_wide.2 (shelf_strconv_Itoa_small x.val (by have := x.2; omega) _)).mono ?_
          rintro e W3 ⟨rfl, rfl⟩
          refine hK _ _ ?_
          clear hK K
          refine wpAnyIn_ready (rs := [0, 3]) (by kernel_rfl) (by simp) ?_
          refine AllReadyIn.cons rfl (fun K hK => ?_) (AllReadyIn.cons rfl (fun K hK => ?_) AllReadyIn.nil)
          · go_simp
            refine hK _ _ ?_
            clear hK K
            refine wpAnyIn_ready (rs := [3]) (by kernel_rfl) (by simp) ?_
            refine AllReadyIn.cons rfl (fun K hK => ?_) AllReadyIn.nil
            go_simp
            refine hK _ _ ?_
            clear hK K
            refine wpAnyIn_ready (rs := [4]) (by kernel_rfl) (by simp) ?_
            refine AllReadyIn.cons rfl (fun K hK => ?_) AllReadyIn.nil
            refine stepIn_append_any rfl (.tmp 11) (.tmp 14) 82 rfl w.heap.size 9 (.string ⟨#[]⟩) 1 16 infoS Tryd.underlying82 rfl (by decide) _ L.length ((L.map numL).map strV) rfl HOZ.out _ (some ⟨W.heap.size, 0, none⟩) 1 1 [strV (numL x.val)] rfl (reads_row7 (xs := [strV (numL x.val)]) HNZ.out rfl) G1.out G2.out G3.out (by have := HSZ.out; simp; omega) ?_
            intro v1 w1 hown1 hg1 _
            obtain ⟨A1, c1, hv1, _⟩ := own_sh hown1
            subst hv1
            have HG1 := hide hg1
            have HO1 := hide hown1
            obtain ⟨y1, y2⟩ := tx_cell HBK.out HOZ.out HG1.out
            refine hK _ _ ?_
            clear hK K
            refine wpAnyIn_ready (rs := [5]) (by kernel_rfl) (by simp) ?_
            refine AllReadyIn.cons rfl (fun K hK => ?_) AllReadyIn.nil
            go_simp
            refine hK _ _ ?_
            clear hK K
            refine wpAnyIn_done (by kernel_rfl) ?_ _
            gi_wp2
            have P := tx_push HT.out.lt HI3.out HZB.out HZK.out HBK.out HOZ.out HG1.out HO1.out
            exact ⟨P.1, P.2.1, by show TxI w (valL (pre ++ [x])) _; rw [valL_snoc, HLE.out]; exact P.2.2⟩
          · go_simp
            refine hK _ _ ?_
            clear hK K
            refine wpAnyIn_ready (rs := [0]) (by kernel_rfl) (by simp) ?_
            refine AllReadyIn.cons rfl (fun K hK => ?_) AllReadyIn.nil
            go_simp
            refine hK _ _ ?_
            clear hK K
            refine wpAnyIn_ready (rs := [4]) (by kernel_rfl) (by simp) ?_
            refine AllReadyIn.cons rfl (fun K hK => ?_) AllReadyIn.nil
            refine stepIn_append_any rfl (.tmp 11) (.tmp 14) 82 rfl w.heap.size 9 (.string ⟨#[]⟩) 1 16 infoS Tryd.underlying82 rfl (by decide) _ L.length ((L.map numL).map strV) rfl HOZ.out _ (some ⟨W.heap.size, 0, none⟩) 1 1 [strV (numL x.val)] rfl (reads_row7 (xs := [strV (numL x.val)]) HNZ.out rfl) G1.out G2.out G3.out (by have := HSZ.out; simp; omega) ?_
            intro v1 w1 hown1 hg1 _
            obtain ⟨A1, c1, hv1, _⟩ := own_sh hown1
            subst hv1
            have HG1 := hide hg1
            have HO1 := hide hown1
            obtain ⟨y1, y2⟩ := tx_cell HBK.out HOZ.out HG1.out
            refine hK _ _ ?_
            clear hK K
            refine wpAnyIn_ready (rs := [5]) (by kernel_rfl) (by simp) ?_
            refine AllReadyIn.cons rfl (fun K hK => ?_) AllReadyIn.nil
            go_simp
            refine hK _ _ ?_
            clear hK K
            refine wpAnyIn_done (by kernel_rfl) ?_ _
            gi_wp2
            have P := tx_push HT.out.lt HI3.out HZB.out HZK.out HBK.out HOZ.out HG1.out HO1.out
            exact ⟨P.1, P.2.1, by show TxI w (valL (pre ++ [x])) _; rw [valL_snoc, HLE.out]; exact P.2.2⟩
    case done =>
      rintro D xs W hD rfl hI2 hK
      have HI2 := hide hI2
      have HK := hide hK
      clear hI2 hK
      have hev : valL (eachF 33 s) = eachL s := each_eachL s hs
      obtain ⟨v, hblk, hown⟩ := HI2.out.cel
      rw [hev] at hown
      have hpos : 0 < (eachL s).length := by
        apply Nat.pos_of_ne_zero
        intro e
        apply h0
        apply Nat.eq_of_testBit_eq
        intro i
        rw [Nat.zero_testBit, ← Bool.not_eq_true]
        intro hb
        have hm := mem_eachL.2 ⟨bit_lt hs hb, hb⟩
        rw [List.length_eq_zero_iff.1 e] at hm
        cases hm
      obtain ⟨_, _, e, hcap⟩ := own_sh hown
      obtain ⟨g, cap, rfl, _, hg⟩ := hown.form hpos
      have hcap2 : (eachL s).length ≤ cap := by injection e with _ _ e; omega
      have HJ := hide (shelf_strings_Join g 0 cap ((eachL s).map numL) ⟨#[32]⟩ W (fun j x hx => by
        have h := hown.cells (g := g) rfl j (strV x) (by rw [List.getElem?_map, hx]; rfl)
        rwa [addr07, ← Nat.zero_add j] at h) hg (by have := eachL_len s; rw [List.length_map]; omega) (by rw [List.length_map]; exact hcap2) (text_len (fun i hi => (mem_eachL.1 hi).1) (eachL_len s)))
      rw [List.length_map] at HJ
      have c0 := cell_of_row W _ 0 _ _ (0, 0) hblk
      simp only [List.getElem?_toArray, List.getElem?_cons_zero] at c0
      clear hown hblk e
      gi_wp2_with (refine ⟨trivial, ?_⟩; gi_at_call 45; refine (callsIn_wide.2 HJ.out).mono ?_; rintro e w5 ⟨rfl, hb5⟩; have HB5 := hide hb5; clear hb5)
      exact leaves_marks [D] w5 ((MarkOk.nil (w.heap.size + 3) w5).cons (by omega) ((HB5.out.block _ (lt_of_block HK.out)).trans HK.out) (by simp)) (fun w' hw' => ⟨.string r, by simp [results, Tryd.results23, go_sem, HE.out], rfl, (HI2.out.bel.trans (HB5.out.mono HI2.out.bel.size)).trans (hw'.mono (by omega))⟩)
    case stop =>
      rintro D c pre W _ _ h _
      exact h.elim
end Go.Proofs.YtffpiaipdeebcaaDoor
