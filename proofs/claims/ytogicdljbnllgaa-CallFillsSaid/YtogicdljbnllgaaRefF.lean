/- The walk of gavelref13.Fills. -/
import Derived.Test.YtogicdljbnllgaaMrg
import Derived.Test.YtogicdljbnllgaaRefT
import Derived.Test.YtogicdljbnllgaaFills
namespace Go.Proofs.Ytogicdljbnllgaa
open Go.Shelf Go.RowKit Go.Lib Go.Sort Go.Proofs

/-- Fills in memory. -/
def flatF (ts : List Trd) : List Value := ts.flatMap fun t => [.int .i64 t.1.1, .int .i64 t.2.1.1, .int .i64 t.2.2]
theorem flatF_len (ts : List Trd) : (flatF ts).length = ts.length * 3 := by
  induction ts with
  | nil => rfl
  | cons t ts ih =>
    have e : flatF (t :: ts) = .int .i64 t.1.1 :: .int .i64 t.2.1.1 :: .int .i64 t.2.2 :: flatF ts := rfl
    rw [e]
    simp only [List.length_cons, ih]
    omega
theorem flatF_snoc (ts : List Trd) (t : Trd) : flatF (ts ++ [t]) = flatF ts ++ [.int .i64 t.1.1, .int .i64 t.2.1.1, .int .i64 t.2.2] := by simp [flatF]
theorem flatF_at : ∀ (ts : List Trd) (k : Nat) (t : Trd), ts[k]? = some t → (flatF ts)[k * 3]? = some (.int .i64 t.1.1) ∧ (flatF ts)[k * 3 + 1]? = some (.int .i64 t.2.1.1) ∧ (flatF ts)[k * 3 + 2]? = some (.int .i64 t.2.2)
  | [], k, t, h => by simp at h
  | x :: ts, 0, t, h => by
    simp only [List.getElem?_cons_zero, Option.some.injEq] at h
    subst h
    exact ⟨rfl, rfl, rfl⟩
  | x :: ts, k + 1, t, h => by
    obtain ⟨h1, h2, h3⟩ := flatF_at ts k t (by simpa using h)
    rw [show (k + 1) * 3 = k * 3 + 1 + 1 + 1 by omega]
    exact ⟨h1, h2, h3⟩
theorem flatF_one (ts : List Trd) : ∀ u ∈ flatF ts, u.oneCell' = true := by
  intro u hu
  obtain ⟨x, _, hx⟩ := List.mem_flatMap.1 hu
  simp only [List.mem_cons, List.not_mem_nil, or_false] at hx
  rcases hx with rfl | rfl | rfl <;> rfl
theorem flatF_bump (pre : List Trd) (x : Trd) (n : Int) : (flatF (pre ++ [x])).set (pre.length * 3 + 2) (.int .i64 n) = flatF (pre ++ [(x.1, x.2.1, n)]) := by
  rw [flatF_snoc, flatF_snoc, List.set_append_right _ _ (by rw [flatF_len]; omega), flatF_len, show pre.length * 3 + 2 - pre.length * 3 = 2 by omega]
  rfl
theorem flatF_eq {x y : Trd} (h : prT x = prT y) (h2 : x.2.2 = y.2.2) (pre : List Trd) : flatF (pre ++ [x]) = flatF (pre ++ [y]) := by
  rw [flatF_snoc, flatF_snoc]
  have e1 := congrArg Prod.fst h
  have e2 := congrArg Prod.snd h
  simp only [prT] at e1 e2
  rw [e1, e2, h2]
theorem infoFl : EI Try.prog 55 (.agg #[.int .i64 0, .int .i64 0, .int .i64 0]) 3 24 := by unfold EI; kernel_rfl
theorem mrg_cnt : ∀ {ts : List Trd} {i : Int}, (∀ t ∈ ts, 1 ≤ t.2.2 ∧ t.2.2 ≤ 64) → ∀ x ∈ mrg ts i, 1 ≤ x.2.2 ∧ x.2.2 ≤ 64
  | [], _, _, x, hx => by simp [mrg] at hx
  | t :: ts, i, h, x, hx => by
    have ht := h t List.mem_cons_self
    simp only [mrg] at hx
    split at hx
    · cases hx
    · split at hx
      · rw [List.mem_singleton.1 hx]; simp only; omega
      · rcases List.mem_cons.1 hx with rfl | hx
        · exact ht
        · exact mrg_cnt (fun t ht => h t (List.mem_cons_of_mem _ ht)) x hx
/-- A row of fills of the call's own. -/
theorem own_fill {W : World} {B g c : Nat} {pre : List Trd} {x : Trd} (h : W.ownsRow B 55 3 (.slice (some ⟨g, 0, none⟩) (pre.length + 1) c) (pre.length + 1) (flatF (pre ++ [x]))) :
    W.cell? ⟨g, pre.length * 3, none⟩ = some (.int .i64 x.1.1) ∧ W.cell? ⟨g, pre.length * 3 + 1, none⟩ = some (.int .i64 x.2.1.1) ∧ W.cell? ⟨g, pre.length * 3 + 2, none⟩ = some (.int .i64 x.2.2) ∧ W.frozen? ⟨g, pre.length * 3 + 2, none⟩ = false := by
  obtain ⟨h1, h2, h3⟩ := flatF_at (pre ++ [x]) pre.length x (by simp)
  exact ⟨(h.cellAt _ (by omega)).trans h1, (h.cellAt _ (by omega)).trans h2, (h.cellAt _ (by omega)).trans h3, h.frozenAt _⟩
theorem own_bump {W : World} {B g c : Nat} {pre : List Trd} {x : Trd} (h : W.ownsRow B 55 3 (.slice (some ⟨g, 0, none⟩) (pre.length + 1) c) (pre.length + 1) (flatF (pre ++ [x]))) (n : Int) :
    (W.setCell ⟨g, pre.length * 3 + 2, none⟩ (.int .i64 n)).ownsRow B 55 3 (.slice (some ⟨g, 0, none⟩) (pre.length + 1) c) (pre.length + 1) (flatF (pre ++ [(x.1, x.2.1, n)])) := by
  have := (h.stored (pre.length * 3 + 2) (.int .i64 n)).1
  rwa [flatF_bump] at this
theorem fill_set {W : World} {q : Nat} {x y z : Value} (h : W.heap[q]? = some (.cells #[x, y, z] 55 (0, 0))) (u v : Int) :
    (((W.setCell ⟨q, 0, none⟩ (.int .i64 u)).setCell ⟨q, 1, none⟩ (.int .i64 v)).setCell ⟨q, 2, none⟩ (.int .i64 1)).heap[q]? = some (.cells #[.int .i64 u, .int .i64 v, .int .i64 1] 55 (0, 0)) := by
  have h1 := setCell_block h 0 (.int .i64 u)
  have h2 := setCell_block h1 1 (.int .i64 v)
  have h3 := setCell_block h2 2 (.int .i64 1)
  exact h3
theorem own_form' {w : World} {B e size n : Nat} {v : Value} {xs : List Value} (h : w.ownsRow B e size v n xs) (hn : 0 < n) : ∃ g cap, v = .slice (some ⟨g, 0, none⟩) n cap := by
  rcases h.2 with ⟨_, h1⟩ | ⟨g, cap, cur, h1, _⟩
  · omega
  · exact ⟨g, cap, h1⟩
theorem fill_reads {W : World} {g : Nat} {u v n : Value} (h : W.heap[g]? = some (.cells #[u, v, n] 55 (0, 0))) : Reads W W.heap.size 3 (some ⟨g, 0, none⟩) 1 [u, v, n] :=
  ⟨rfl, fun _ => ⟨g, 0, rfl, lt_of_block h, fun j x hx => by
    rw [Nat.zero_add, cell_of_row W g j _ _ (0, 0) h]
    rw [List.getElem?_toArray]
    exact hx⟩⟩
/-- What the document's Fills answers: a row of the call's own. -/
def RefFP (ts : List Trd) (w : World) (e : Ending) (w' : World) : Prop :=
  ∃ A c, e = .returned (.slice A ts.length c) ∧ w'.ownsRow w.heap.size 55 3 (.slice A ts.length c) ts.length (flatF ts) ∧ Below w.heap.size w w'
theorem run_ids {b s : List (Int × Int)} (hb : OkW b) (hs : OkW s) : Apart2 (RunA b s).1 := by
  refine run_apart (hb.mid hs) ?_ ?_
  · unfold ordT
    rw [List.map_map]
    show ((ordK κB b).map fun x => x).Nodup
    rw [List.map_id']
    exact ordK_nodup _ _
  · unfold ordT
    rw [List.map_map]
    show ((ordK κS s).map fun x => x).Nodup
    rw [List.map_id']
    exact ordK_nodup _ _

/-- One unit more, as it is told in memory. -/
theorem mrg_next {ts : List Trd} (h : ∀ t ∈ ts, 1 ≤ t.2.2) (ha : Apart2 ts) {i u v : Int} (h0 : 0 ≤ i) (h1 : i < sumT ts) (hp : pairAt ts (i + 1) = (u, v)) :
    (∃ pre x, mrg ts i = pre ++ [x] ∧ x.1.1 = u ∧ x.2.1.1 = v ∧ mrg ts (i + 1) = pre ++ [(x.1, x.2.1, x.2.2 + 1)]) ∨
    ((∀ pre x, mrg ts i = pre ++ [x] → ¬ (x.1.1 = u ∧ x.2.1.1 = v)) ∧ (mrg ts (i + 1)).length = (mrg ts i).length + 1 ∧ flatF (mrg ts (i + 1)) = flatF (mrg ts i) ++ [.int .i64 u, .int .i64 v, .int .i64 1]) := by
  have key : ∀ y : Trd, prT y = (u, v) → y.2.2 = 1 → ∀ l, flatF (l ++ [y]) = flatF l ++ [.int .i64 u, .int .i64 v, .int .i64 1] := by
    intro y hy h2 l
    have e1 := congrArg Prod.fst hy
    have e2 := congrArg Prod.snd hy
    simp only [prT] at e1 e2
    rw [flatF_snoc, e1, e2, h2]
  rcases mrg_step h ha i h0 h1 with ⟨h5, x, h6, h7, h8⟩ | ⟨pre, x, h5, ⟨h6, h7⟩ | ⟨h6, y, h7, h8, h9⟩⟩
  · refine .inr ⟨fun pre y e => by rw [h5] at e; simp at e, by rw [h5, h6]; rfl, ?_⟩
    rw [h5, h6]
    exact key x (h7.trans hp) h8 []
  · have e := h6.trans hp
    exact .inl ⟨pre, x, h5, congrArg Prod.fst e, congrArg Prod.snd e, h7⟩
  · refine .inr ⟨fun pre' x' e hx => h6 ?_, by rw [h5, h7]; simp, ?_⟩
    · rw [h5] at e
      obtain ⟨_, e2⟩ := List.append_inj' e rfl
      have e3 : x = x' := by simpa using e2
      rw [hp, e3]
      show (x'.1.1, x'.2.1.1) = (u, v)
      rw [hx.1, hx.2]
    · rw [h5, h7, show pre ++ [x, y] = (pre ++ [x]) ++ [y] by simp]
      exact key y (h8.trans hp) h9 _

set_option maxRecDepth 100000 in
set_option maxHeartbeats 8000000 in
theorem reffills_any (A : Option Addr) (c : Nat) (b : List (Int × Int)) (A' : Option Addr) (c' : Nat) (s : List (Int × Int)) (w : World) (h : Wants w w.heap.size A b) (h' : Wants w w.heap.size A' s) :
    Calls Try.prog 22 #[.slice A b.length c, .slice A' s.length c'] w (RefFP (FillsA b s) w) := by
  have HW := hide h
  have HW' := hide h'
  have HC := hide (refcheck_any A c b A' c' s w h h')
  obtain ⟨FS, hFS⟩ : ∃ FS, FS = FillsA b s := ⟨_, rfl⟩
  rw [← hFS]
  clear h h'
  go_enter Try.func22, Try.ntmps22
  go_wp2_with fail
  refine (HC.out).mono ?_
  rintro e w0 ⟨rfl, b0⟩
  have HB0 := hide b0
  clear b0 HC
  by_cases hk : checkI b s = 0
  case neg =>
    have hk1 : (checkI b s != 0) = true := by simpa using hk
    obtain rfl : FS = [] := by rw [hFS]; unfold FillsA; rw [if_neg hk]
    clear hFS
    generalize checkI b s = ck at *
    go_wp2_with fail
    go_ret
    exact ⟨none, 0, rfl, World.ownsRow_nil _ _ _ _, HB0.out⟩
  have hf : FS = (RunA b s).1 := by rw [hFS]; unfold FillsA; rw [if_pos hk]
  clear hFS
  have HOK := hide (ok_of_check hk)
  rw [hk]
  have HF := hide hf
  clear hk hf
  have HS1 := hide (refside_any A c b true w0 ((HW.out.below HB0.out).more HB0.out.size) (by have := HOK.out.1.1; omega))
  go_wp2_with fail
  refine (HS1.out).mono ?_
  rintro e w1 ⟨v1, rfl, o1, b1⟩
  obtain ⟨O, co, rfl, _⟩ := own_sh o1
  have HO1 := hide o1
  have HB1 := hide b1
  have HS2 := hide (refside_any A' c' s false w1 (((HW'.out.below HB0.out).more HB0.out.size |>.below b1).more b1.size) (by have := HOK.out.2.1; omega))
  clear o1 b1 HS1
  go_wp2_with fail
  refine (HS2.out).mono ?_
  rintro e w2 ⟨v2, rfl, o2, b2⟩
  obtain ⟨O', co', rfl, _⟩ := own_sh o2
  have HT := hide (two_start (c := c) (c' := c') ((HW.out.below HB0.out).more HB0.out.size) ((HW'.out.below HB0.out).more HB0.out.size) HOK.out.1 HOK.out.2 HB1.out HO1.out b2 o2)
  have e1 := ordK_len (κOf true) b
  have e2 := ordK_len (κOf false) s
  rw [e1, e2]
  clear o2 b2 HS2 HO1 HB1 e1 e2
  go_wp2_with fail
  obtain ⟨p5, hp5⟩ : ∃ p, p = w2.heap.size := ⟨_, rfl⟩
  generalize (w2.alloc (.cells #[.slice A b.length c, .slice O b.length co] 72)).alloc (.cells #[.slice A' s.length c', .slice O' s.length co'] 72) = w3 at *
  rw [← hp5] at HT ⊢
  clear hp5
  have hbw := HB0.out.trans (HT.out.bel.mono HB0.out.size)
  refine (traded_any A c b A' c' s w3 ((HW.out.below hbw).more hbw.size) ((HW'.out.below hbw).more hbw.size) HOK.out.1 HOK.out.2).mono ?_
  rintro e w4 ⟨rfl, b4⟩
  have HT4 := hide (HT.out.below b4)
  have HBW := hide (hbw.trans (b4.mono hbw.size))
  have hcnt : ∀ t ∈ FS, 1 ≤ t.2.2 ∧ t.2.2 ≤ 64 := fun t ht => (run_trd HOK.out.1 HOK.out.2 (by rw [← HF.out]; exact ht)).2.2.1
  have HCN := hide hcnt
  have HAP : Hid (Apart2 FS) := hide (by rw [HF.out]; exact run_ids HOK.out.1 HOK.out.2)
  have HLN : Hid (FS.length ≤ 8192) := hide (by rw [HF.out]; have := run_few HOK.out.1 HOK.out.2; have := HOK.out.1.1; have := HOK.out.2.1; omega)
  have HUP : Hid (∀ k, 1 ≤ k → k ≤ sumT FS → unitR (sideB b) k = (pairAt FS k).1 ∧ unitR (sideS s) k = (pairAt FS k).2) := hide (fun k h1 h2 => by
    rw [HF.out] at h2 ⊢
    obtain ⟨x, y, e1, e2, e3⟩ := run_unit_pair (HOK.out.1.mid HOK.out.2) k h1 h2
    rw [Int.zero_add] at e1 e2
    have e3' : pairAt (RunA b s).1 k = (x.1, y.1) := e3
    rw [e3']
    exact ⟨unitR_some e1, unitR_some e2⟩)
  rw [← HF.out]
  obtain ⟨KT, hKT⟩ : ∃ K, K = sumT FS := ⟨_, rfl⟩
  rw [← hKT] at HUP ⊢
  have hkb : 0 ≤ KT ∧ KT ≤ 1000000 := by
    have h1 := sumT_bound FS (fun t ht => by have := hcnt t ht; omega)
    have h2 := HLN.out
    omega
  have HKT := hide hKT
  clear b4 hbw HT HB0 HW HW' hcnt hKT HF HOK
  go_wp2_with fail
  go_loopw [5, 9] (fun sv iv wr => ∃ (i : Int) (O2 : Option Addr) (c2 : Nat), sv = .slice O2 (mrg FS i).length c2 ∧ iv = .int .i64 (i + 1) ∧ 0 ≤ i ∧ i ≤ KT ∧ wr.ownsRow w4.heap.size 55 3 (.slice O2 (mrg FS i).length c2) (mrg FS i).length (flatF (mrg FS i)) ∧ Below w4.heap.size w4 wr) (fun _ iv _ => (KT + 1 - intOf iv).toNat)
  case atStart => exact ⟨0, none, 0, by rw [mrg_zero]; rfl, rfl, Int.le_refl _, hkb.1, by rw [mrg_zero]; exact World.ownsRow_nil _ _ _ _, Below.refl _ _⟩
  case round =>
    obtain ⟨i, O2, c2, rfl, rfl, hi0, hi1, ho, hb⟩ := hrel
    have HO := hide ho
    have HB := hide hb
    have HT := hide (HT4.out.below hb)
    clear ho hb
    by_cases hlt : i < KT
    · obtain ⟨u, v, hp⟩ : ∃ u v, pairAt FS (i + 1) = (u, v) := ⟨_, _, rfl⟩
      have HNX := hide (mrg_next (fun t ht => (HCN.out t ht).1) HAP.out hi0 (by rw [← HKT.out]; exact hlt) hp)
      have hml := mrg_len FS i
      have hfl := HLN.out
      obtain ⟨M, hM⟩ : ∃ M, mrg FS i = M := ⟨_, rfl⟩
      rw [hM] at HO HNX hml ⊢
      have HMM := hide hM
      have HML : Hid (M.length ≤ 8192) := hide (by omega)
      have hup := HUP.out (i + 1) (by omega) (by omega)
      rw [hp] at hup
      have hle : i + 1 ≤ KT := by omega
      have HUB : Hid (unitR (sideB b) (i + 1) = u) := hide hup.1
      have HUS : Hid (unitR (sideS s) (i + 1) = v) := hide hup.2
      obtain ⟨d0, d1, d2, d3⟩ := HT.out.cells
      have HSS : Hid (∀ X, Below wr.heap.size wr X → X.cell? ⟨p5, 0, none⟩ = some (.slice A b.length c) ∧ X.cell? ⟨p5, 1, none⟩ = some (.slice O b.length co) ∧ X.cell? ⟨p5 + 1, 0, none⟩ = some (.slice A' s.length c') ∧ X.cell? ⟨p5 + 1, 1, none⟩ = some (.slice O' s.length co')) := hide (fun X hb => ⟨(hb.cell (World.block_lt_of_cell? _ _ d0)).trans d0, (hb.cell (World.block_lt_of_cell? _ _ d1)).trans d1, (hb.cell (World.block_lt_of_cell? _ _ d2)).trans d2, (hb.cell (World.block_lt_of_cell? _ _ d3)).trans d3⟩)
      have HIB := hide (And.intro hi0 (And.intro hi1 hkb))
      clear d0 d1 d2 d3 hp hup hM hml hfl
      go_upto_region 9 with fail
      go_cut [10] from 29 to 35 (fun p wx => ∃ q, p = .pointer (some ⟨q, 0, none⟩) ∧ wx.heap[q]? = some (.cells #[.int .i64 u, .int .i64 v, .int .i64 1] 55 (0, 0)) ∧ Below wr.heap.size wr wx ∧ wr.heap.size ≤ q)
      case first =>
        refine wp_region_U 8 (fun X => X.cell? ⟨p5, 0, none⟩ = some (.slice A b.length c) ∧ X.cell? ⟨p5, 1, none⟩ = some (.slice O b.length co) ∧ X.cell? ⟨p5 + 1, 0, none⟩ = some (.slice A' s.length c') ∧ X.cell? ⟨p5 + 1, 1, none⟩ = some (.slice O' s.length co')) rfl (HSS.out _ (below_drewN (Below.refl _ _) 1)) (fun hHeld => ?_)
        have HM : Hid (Below wr.heap.size wr wr.drew) := hide (below_drewN (Below.refl _ _) 1)
        generalize wr.drew = wd at *
        refine AnyU.take (i := 0) (v := ?v301) rfl (by kernel_rfl) (by kernel_rfl) (by kernel_rfl) (by kernel_rfl) (fun _ _ _ h => h) (Or.inl ⟨by rfl, ?hy301⟩) hHeld ?r301
        case hy301 => (intro w hSw; (try dsimp only at hSw); go_simp <;> with_reducible rfl)
        simp only [Act.put, List.setIfInBounds_toArray, List.set_cons_zero, List.set_cons_succ]
        refine AnyU.take (i := 1) (v := ?v302) rfl (by kernel_rfl) (by kernel_rfl) (by kernel_rfl) (by kernel_rfl) (fun _ _ _ h => h) (Or.inl ⟨by rfl, ?hy302⟩) hHeld ?r302
        case hy302 => (intro w hSw; (try dsimp only at hSw); go_simp <;> with_reducible rfl)
        simp only [Act.put, List.setIfInBounds_toArray, List.set_cons_zero, List.set_cons_succ]
        refine AnyU.take (i := 3) (v := ?v303) rfl (by kernel_rfl) (by kernel_rfl) (by kernel_rfl) (by kernel_rfl) (fun _ _ _ h => h) (Or.inl ⟨by rfl, ?hy303⟩) hHeld ?r303
        case hy303 => (intro w hSw; (try dsimp only at hSw); go_simp <;> with_reducible rfl)
        simp only [Act.put, List.setIfInBounds_toArray, List.set_cons_zero, List.set_cons_succ]
        refine AnyU.take (i := 4) (v := ?v304) rfl (by kernel_rfl) (by kernel_rfl) (by kernel_rfl) (by kernel_rfl) (fun _ _ _ h => h) (Or.inl ⟨by rfl, ?hy304⟩) hHeld ?r304
        case hy304 => (intro w hSw; (try dsimp only at hSw); go_simp <;> with_reducible rfl)
        simp only [Act.put, List.setIfInBounds_toArray, List.set_cons_zero, List.set_cons_succ]
        refine AnyU.next (js := [2, 7]) (by kernel_rfl) (by simp) (NextU.cons rfl (fun K hK => ?_) (NextU.cons rfl (fun K hK => ?_) (NextU.nil)))
        · have HCL := hide ((HT.out.below HM.out).unitB (k := i + 1) (by have := HIB.out; omega))
          rw [HUB.out] at HCL
          go_simp
          refine HCL.out.mono ?_
          rintro e wdb ⟨rfl, hb⟩
          clear HCL
          replace HM := hide (HM.out.trans (hb.mono HM.out.size))
          clear hb
          go_wp2_with fail
          refine hK.out _ _ (fun _ => HSS.out _ HM.out) (fun hHeld => ?_)
          replace hHeld := hHeld (by decide)
          clear hK K
          try simp only [Act.put, List.setIfInBounds_toArray, List.set_cons_zero, List.set_cons_succ]
          refine AnyU.next (js := [5, 7]) (by kernel_rfl) (by simp) (NextU.cons rfl (fun K hK => ?_) (NextU.cons rfl (fun K hK => ?_) (NextU.nil)))
          · have HCL := hide ((HT.out.below HM.out).unitS (k := i + 1) (by have := HIB.out; omega))
            rw [HUS.out] at HCL
            go_simp
            refine HCL.out.mono ?_
            rintro e wdbs ⟨rfl, hb⟩
            clear HCL
            replace HM := hide (HM.out.trans (hb.mono HM.out.size))
            clear hb
            go_wp2_with fail
            refine hK.out _ _ (fun _ => HSS.out _ HM.out) (fun hHeld => ?_)
            replace hHeld := hHeld (by decide)
            clear hK K
            try simp only [Act.put, List.setIfInBounds_toArray, List.set_cons_zero, List.set_cons_succ]
            refine AnyU.take (i := 6) (v := ?v501) rfl (by kernel_rfl) (by kernel_rfl) (by kernel_rfl) (by kernel_rfl) (fun _ _ _ h => h) (Or.inl ⟨by rfl, ?hy501⟩) hHeld ?r501
            case hy501 => (intro w hSw; (try dsimp only at hSw); go_simp <;> with_reducible rfl)
            simp only [Act.put, List.setIfInBounds_toArray, List.set_cons_zero, List.set_cons_succ]
            refine AnyU.next (js := [7]) (by kernel_rfl) (by simp) (NextU.cons rfl (fun K hK => ?_) NextU.nil)
            go_simp
            have HQ := hide (And.intro (heap_alloc_new wdbs (.cells #[.int .i64 0, .int .i64 0, .int .i64 0] 55)) HM.out.size)
            replace HM := hide (HM.out.alloc HM.out.size (.cells #[.int .i64 0, .int .i64 0, .int .i64 0] 55))
            refine hK.out _ _ (fun _ => HSS.out _ HM.out) (fun hHeld => ?_)
            obtain ⟨q, hq⟩ : ∃ q, q = wdbs.heap.size := ⟨_, rfl⟩
            generalize wdbs.alloc (.cells #[.int .i64 0, .int .i64 0, .int .i64 0] 55) = wdbsa at *
            rw [← hq] at HQ ⊢
            clear hq
            replace hHeld := hHeld (by decide)
            clear hK K
            try simp only [Act.put, List.setIfInBounds_toArray, List.set_cons_zero, List.set_cons_succ]
            have x0 := cell_of_row _ _ 0 _ _ (0, 0) HQ.out.1
            have x1 := cell_of_row _ _ 1 _ _ (0, 0) HQ.out.1
            have x2 := cell_of_row _ _ 2 _ _ (0, 0) HQ.out.1
            have y0 := frozen_of_row _ _ 0 _ _ HQ.out.1
            have y1 := frozen_of_row _ _ 1 _ _ HQ.out.1
            have y2 := frozen_of_row _ _ 2 _ _ HQ.out.1
            simp only [List.getElem?_toArray, List.getElem?_cons_zero, List.getElem?_cons_succ] at x0 x1 x2
            refine AnyU.next (js := [8]) (by kernel_rfl) (by simp) (NextU.cons rfl (fun K hK => ?_) NextU.nil)
            go_simp
            refine hK.out _ _ (fun h => absurd h (by decide)) (fun _ => ?_)
            clear hK K x0 x1 x2 y0 y1 y2
            try simp only [Act.put, List.setIfInBounds_toArray, List.set_cons_zero, List.set_cons_succ]
            refine AnyU.over (by kernel_rfl) ?_ _
            go_wp2_with fail
            go_meet
            exact ⟨q, rfl, fill_set HQ.out.1 u v, HM.out.setCell HQ.out.2 _ |>.setCell HQ.out.2 _ |>.setCell HQ.out.2 _, HQ.out.2⟩
          · go_simp
            have HQ := hide (And.intro (heap_alloc_new wdb (.cells #[.int .i64 0, .int .i64 0, .int .i64 0] 55)) HM.out.size)
            replace HM := hide (HM.out.alloc HM.out.size (.cells #[.int .i64 0, .int .i64 0, .int .i64 0] 55))
            refine hK.out _ _ (fun _ => HSS.out _ HM.out) (fun hHeld => ?_)
            obtain ⟨q, hq⟩ : ∃ q, q = wdb.heap.size := ⟨_, rfl⟩
            generalize wdb.alloc (.cells #[.int .i64 0, .int .i64 0, .int .i64 0] 55) = wdba at *
            rw [← hq] at HQ ⊢
            clear hq
            replace hHeld := hHeld (by decide)
            clear hK K
            try simp only [Act.put, List.setIfInBounds_toArray, List.set_cons_zero, List.set_cons_succ]
            refine AnyU.next (js := [5]) (by kernel_rfl) (by simp) (NextU.cons rfl (fun K hK => ?_) NextU.nil)
            have HCL := hide ((HT.out.below HM.out).unitS (k := i + 1) (by have := HIB.out; omega))
            rw [HUS.out] at HCL
            go_simp
            refine HCL.out.mono ?_
            rintro e wdbas ⟨rfl, hb⟩
            clear HCL
            replace HQ := hide (And.intro ((hb.block _ (lt_of_block HQ.out.1)).trans HQ.out.1) HQ.out.2)
            replace HM := hide (HM.out.trans (hb.mono HM.out.size))
            clear hb
            go_wp2_with fail
            refine hK.out _ _ (fun _ => HSS.out _ HM.out) (fun hHeld => ?_)
            replace hHeld := hHeld (by decide)
            clear hK K
            try simp only [Act.put, List.setIfInBounds_toArray, List.set_cons_zero, List.set_cons_succ]
            refine AnyU.take (i := 6) (v := ?v511) rfl (by kernel_rfl) (by kernel_rfl) (by kernel_rfl) (by kernel_rfl) (fun _ _ _ h => h) (Or.inl ⟨by rfl, ?hy511⟩) hHeld ?r511
            case hy511 => (intro w hSw; (try dsimp only at hSw); go_simp <;> with_reducible rfl)
            simp only [Act.put, List.setIfInBounds_toArray, List.set_cons_zero, List.set_cons_succ]
            have x0 := cell_of_row _ _ 0 _ _ (0, 0) HQ.out.1
            have x1 := cell_of_row _ _ 1 _ _ (0, 0) HQ.out.1
            have x2 := cell_of_row _ _ 2 _ _ (0, 0) HQ.out.1
            have y0 := frozen_of_row _ _ 0 _ _ HQ.out.1
            have y1 := frozen_of_row _ _ 1 _ _ HQ.out.1
            have y2 := frozen_of_row _ _ 2 _ _ HQ.out.1
            simp only [List.getElem?_toArray, List.getElem?_cons_zero, List.getElem?_cons_succ] at x0 x1 x2
            refine AnyU.next (js := [8]) (by kernel_rfl) (by simp) (NextU.cons rfl (fun K hK => ?_) NextU.nil)
            go_simp
            refine hK.out _ _ (fun h => absurd h (by decide)) (fun _ => ?_)
            clear hK K x0 x1 x2 y0 y1 y2
            try simp only [Act.put, List.setIfInBounds_toArray, List.set_cons_zero, List.set_cons_succ]
            refine AnyU.over (by kernel_rfl) ?_ _
            go_wp2_with fail
            go_meet
            exact ⟨q, rfl, fill_set HQ.out.1 u v, HM.out.setCell HQ.out.2 _ |>.setCell HQ.out.2 _ |>.setCell HQ.out.2 _, HQ.out.2⟩
        · go_simp
          have HQ := hide (And.intro (heap_alloc_new wd (.cells #[.int .i64 0, .int .i64 0, .int .i64 0] 55)) HM.out.size)
          replace HM := hide (HM.out.alloc HM.out.size (.cells #[.int .i64 0, .int .i64 0, .int .i64 0] 55))
          refine hK.out _ _ (fun _ => HSS.out _ HM.out) (fun hHeld => ?_)
          obtain ⟨q, hq⟩ : ∃ q, q = wd.heap.size := ⟨_, rfl⟩
          generalize wd.alloc (.cells #[.int .i64 0, .int .i64 0, .int .i64 0] 55) = wda at *
          rw [← hq] at HQ ⊢
          clear hq
          replace hHeld := hHeld (by decide)
          clear hK K
          try simp only [Act.put, List.setIfInBounds_toArray, List.set_cons_zero, List.set_cons_succ]
          refine AnyU.next (js := [2]) (by kernel_rfl) (by simp) (NextU.cons rfl (fun K hK => ?_) NextU.nil)
          have HCL := hide ((HT.out.below HM.out).unitB (k := i + 1) (by have := HIB.out; omega))
          rw [HUB.out] at HCL
          go_simp
          refine HCL.out.mono ?_
          rintro e wdab ⟨rfl, hb⟩
          clear HCL
          replace HQ := hide (And.intro ((hb.block _ (lt_of_block HQ.out.1)).trans HQ.out.1) HQ.out.2)
          replace HM := hide (HM.out.trans (hb.mono HM.out.size))
          clear hb
          go_wp2_with fail
          refine hK.out _ _ (fun _ => HSS.out _ HM.out) (fun hHeld => ?_)
          replace hHeld := hHeld (by decide)
          clear hK K
          try simp only [Act.put, List.setIfInBounds_toArray, List.set_cons_zero, List.set_cons_succ]
          refine AnyU.next (js := [5]) (by kernel_rfl) (by simp) (NextU.cons rfl (fun K hK => ?_) NextU.nil)
          have HCL := hide ((HT.out.below HM.out).unitS (k := i + 1) (by have := HIB.out; omega))
          rw [HUS.out] at HCL
          go_simp
          refine HCL.out.mono ?_
          rintro e wdabs ⟨rfl, hb⟩
          clear HCL
          replace HQ := hide (And.intro ((hb.block _ (lt_of_block HQ.out.1)).trans HQ.out.1) HQ.out.2)
          replace HM := hide (HM.out.trans (hb.mono HM.out.size))
          clear hb
          go_wp2_with fail
          refine hK.out _ _ (fun _ => HSS.out _ HM.out) (fun hHeld => ?_)
          replace hHeld := hHeld (by decide)
          clear hK K
          try simp only [Act.put, List.setIfInBounds_toArray, List.set_cons_zero, List.set_cons_succ]
          refine AnyU.take (i := 6) (v := ?v521) rfl (by kernel_rfl) (by kernel_rfl) (by kernel_rfl) (by kernel_rfl) (fun _ _ _ h => h) (Or.inl ⟨by rfl, ?hy521⟩) hHeld ?r521
          case hy521 => (intro w hSw; (try dsimp only at hSw); go_simp <;> with_reducible rfl)
          simp only [Act.put, List.setIfInBounds_toArray, List.set_cons_zero, List.set_cons_succ]
          have x0 := cell_of_row _ _ 0 _ _ (0, 0) HQ.out.1
          have x1 := cell_of_row _ _ 1 _ _ (0, 0) HQ.out.1
          have x2 := cell_of_row _ _ 2 _ _ (0, 0) HQ.out.1
          have y0 := frozen_of_row _ _ 0 _ _ HQ.out.1
          have y1 := frozen_of_row _ _ 1 _ _ HQ.out.1
          have y2 := frozen_of_row _ _ 2 _ _ HQ.out.1
          simp only [List.getElem?_toArray, List.getElem?_cons_zero, List.getElem?_cons_succ] at x0 x1 x2
          refine AnyU.next (js := [8]) (by kernel_rfl) (by simp) (NextU.cons rfl (fun K hK => ?_) NextU.nil)
          go_simp
          refine hK.out _ _ (fun h => absurd h (by decide)) (fun _ => ?_)
          clear hK K x0 x1 x2 y0 y1 y2
          try simp only [Act.put, List.setIfInBounds_toArray, List.set_cons_zero, List.set_cons_succ]
          refine AnyU.over (by kernel_rfl) ?_ _
          go_wp2_with fail
          go_meet
          exact ⟨q, rfl, fill_set HQ.out.1 u v, HM.out.setCell HQ.out.2 _ |>.setCell HQ.out.2 _ |>.setCell HQ.out.2 _, HQ.out.2⟩
      case rest =>
      obtain ⟨q, rfl, hq, hb, hql⟩ := hcut
      have HO2 := hide (own_below HO.out hb (Nat.le_refl _))
      have HB2 := hide (HB.out.trans (hb.mono HB.out.size))
      have HQ := hide hq
      have hlq : w4.heap.size ≤ q := Nat.le_trans HB.out.size hql
      have HLQ := hide hlq
      clear hb HO HB HT HSS HUB HUS hql hlq hq
      obtain ⟨D, hD⟩ : ∃ D : Bool, D = true ↔ ∃ pre x, M = pre ++ [x] ∧ x.1.1 = u ∧ x.2.1.1 = v := by
        rcases Classical.em (∃ pre x, M = pre ++ [x] ∧ x.1.1 = u ∧ x.2.1.1 = v) with h | h
        · exact ⟨true, fun _ => h, fun _ => rfl⟩
        · exact ⟨false, (fun e => by cases e), (fun e => absurd e h)⟩
      have HD := hide hD
      obtain ⟨N, hN⟩ : ∃ N, N = M.length := ⟨_, rfl⟩
      rw [← hN] at HO2 HML ⊢
      have HNN := hide hN
      clear hD hN
      go_upto_region 11 with fail
      go_cut [61] from 38 to 61 (fun z wx => z = .bool D ∧ ∃ m, wx = wc.drewN m)
      case first =>
        have x0 := cell_of_row _ _ 0 _ _ (0, 0) HQ.out
        have x1 := cell_of_row _ _ 1 _ _ (0, 0) HQ.out
        simp only [List.getElem?_toArray, List.getElem?_cons_zero, List.getElem?_cons_succ] at x0 x1
        rcases List.eq_nil_or_concat M with rfl | ⟨pre, x, rfl⟩
        · have hd : D = false := by
            rw [← Bool.not_eq_true, HD.out]
            rintro ⟨pre, x, e, _⟩
            simp at e
          subst hd
          obtain rfl : N = 0 := HNN.out
          go_quiet (fail)
          go_wp2_with fail
          all_goals (
            go_meet
            exact ⟨rfl, _, rfl⟩)
        · rw [List.concat_eq_append] at *
          obtain ⟨⟨xb, xbc⟩, ⟨xs, xsc⟩, xn⟩ := x
          have hlen : (pre ++ [((xb, xbc), (xs, xsc), xn)]).length = pre.length + 1 := by simp
          have hN : N = pre.length + 1 := HNN.out.trans hlen
          obtain ⟨g, cg, hv⟩ := own_form' HO2.out (by omega)
          injection hv with hA hB hC
          subst hA hC
          have hrow := HO2.out
          rw [hN] at hrow
          obtain ⟨z0, z1, z2, z3⟩ := own_fill hrow
          simp only at z0 z1 z2
          have hml := HML.out
          have hpos : 0 < N := by omega
          have hw : IntKind.i64.wrap ((N : Int) - 1) = (pre.length : Int) := by rw [show (N : Int) - 1 = (pre.length : Int) by omega]; exact Go.IntWalk.i64_in _ (by omega)
          have hpl : (pre.length : Int) < (N : Int) := by omega
          clear hlen hN hrow hml hB
          by_cases hu : xb = u
          · subst hu
            by_cases hv2 : xs = v
            · subst hv2
              have hd : D = true := HD.out.2 ⟨pre, _, rfl, rfl, rfl⟩
              subst hd
              go_quiet (fail)
              go_wp2_with fail
              all_goals (
                go_meet
                exact ⟨rfl, _, rfl⟩)
            · have hd : D = false := by
                rw [← Bool.not_eq_true, HD.out]
                rintro ⟨pre', x, e, e1, e2⟩
                obtain ⟨_, e3⟩ := List.append_inj' e rfl
                have e4 : ((xb, xbc), (xs, xsc), xn) = x := by simpa using e3
                rw [← e4] at e2
                exact hv2 e2
              subst hd
              have hne : (xs == v) = false := by simpa using hv2
              go_quiet (fail)
              go_wp2_with fail
              all_goals (
                go_meet
                exact ⟨rfl, _, rfl⟩)
          · have hd : D = false := by
              rw [← Bool.not_eq_true, HD.out]
              rintro ⟨pre', x, e, e1, e2⟩
              obtain ⟨_, e3⟩ := List.append_inj' e rfl
              have e4 : ((xb, xbc), (xs, xsc), xn) = x := by simpa using e3
              rw [← e4] at e1
              exact hu e1
            subst hd
            have hne : (xb == u) = false := by simpa using hu
            go_quiet (fail)
            go_wp2_with fail
            all_goals (
              go_meet
              exact ⟨rfl, _, rfl⟩)
      case rest =>
      obtain ⟨rfl, m, rfl⟩ := hcut
      have HO3 : Hid ((wc.drewN m).ownsRow w4.heap.size 55 3 (.slice O2 N c2) N (flatF M)) := hide HO2.out
      have HB3 : Hid (Below w4.heap.size w4 (wc.drewN m)) := hide (below_drewN HB2.out m)
      have HQ3 : Hid ((wc.drewN m).heap[q]? = some (.cells #[.int .i64 u, .int .i64 v, .int .i64 1] 55 (0, 0))) := hide HQ.out
      generalize wc.drewN m = wd at *
      clear HO2 HB2 HQ
      rcases HNX.out with ⟨pre, ⟨⟨xb, xbc⟩, ⟨xs, xsc⟩, xn⟩, rfl, rfl, rfl, hn⟩ | ⟨hno, hnl, hnf⟩
      · have hd : D = true := HD.out.2 ⟨pre, _, rfl, rfl, rfl⟩
        subst hd
        have HN := hide hn
        clear HNX hn
        have hlen : (pre ++ [((xb, xbc), (xs, xsc), xn)]).length = pre.length + 1 := by simp
        have hN : N = pre.length + 1 := HNN.out.trans hlen
        obtain ⟨g, cg, hv⟩ := own_form' HO3.out (by omega)
        injection hv with hA hB hC
        subst hA hC
        have hrow := HO3.out
        rw [hN] at hrow
        obtain ⟨z0, z1, z2, z3⟩ := own_fill hrow
        simp only at z0 z1 z2
        have hml := HML.out
        have HO4 := hide (own_bump hrow (xn + 1))
        rw [← hN] at HO4
        have HLE : Hid ((pre ++ [((xb, xbc), (xs, xsc), xn + 1)]).length = N) := hide (by rw [hN]; simp)
        have hxn : 1 ≤ xn ∧ xn ≤ 64 := mrg_cnt HCN.out ((xb, xbc), (xs, xsc), xn) (by rw [HMM.out]; simp)
        have hw : IntKind.i64.wrap ((N : Int) - 1) = (pre.length : Int) := by rw [show (N : Int) - 1 = (pre.length : Int) by omega]; exact Go.IntWalk.i64_in _ (by omega)
        have hpl : (pre.length : Int) < (N : Int) := by omega
        have hw2 : IntKind.i64.wrap (xn + 1) = xn + 1 := Go.IntWalk.i64_in _ (by omega)
        have hw3 : IntKind.i64.wrap (i + 1 + 1) = i + 1 + 1 := Go.IntWalk.i64_in _ (by have := HIB.out; omega)
        have HB4 : Hid (Below w4.heap.size w4 (wd.setCell ⟨g, pre.length * 3 + 2, none⟩ (.int .i64 (xn + 1)))) := hide (HB3.out.setCell (HO3.out.lt g rfl).1 _)
        clear hlen hN hrow hml hB
        go_wp2_with fail
        go_roundw
        case rel => exact ⟨i + 1, some ⟨g, 0, none⟩, _, by rw [HN.out, HLE.out], rfl, by omega, by omega, by rw [HN.out, HLE.out]; exact HO4.out, HB4.out⟩
        case measure => simp only [intOf]; omega
      · have hd : D = false := by
          rw [← Bool.not_eq_true, HD.out]
          rintro ⟨pre, x, e, e1, e2⟩
          exact hno pre x e ⟨e1, e2⟩
        subst hd
        have HN := hide (And.intro hnl hnf)
        clear HNX hno hnl hnf
        have x0 := cell_of_row _ _ 0 _ _ (0, 0) HQ3.out
        have x1 := cell_of_row _ _ 1 _ _ (0, 0) HQ3.out
        have x2 := cell_of_row _ _ 2 _ _ (0, 0) HQ3.out
        simp only [List.getElem?_toArray, List.getElem?_cons_zero, List.getElem?_cons_succ] at x0 x1 x2
        have G1 : Hid (∀ z ∈ [Value.int .i64 u, .int .i64 v, .int .i64 1], z.oneCell' = true) := hide (fun z hz => by
          simp only [List.mem_cons, List.not_mem_nil, or_false] at hz
          rcases hz with rfl | rfl | rfl <;> rfl)
        have G5 : Hid (N + 1 ≤ maxLen) := hide (by have := HML.out; unfold maxLen; omega)
        have G6 : Hid ((N + 1) * 24 ≤ 140737488355328) := hide (by have := HML.out; omega)
        have hw3 : IntKind.i64.wrap (i + 1 + 1) = i + 1 + 1 := Go.IntWalk.i64_in _ (by have := HIB.out; omega)
        go_wp2_with (at_builtin; refine wpList_append_any rfl (.tmp 71) (.tmp 73) 52 rfl w4.heap.size 55 _ 3 24 infoFl Try.underlying52 rfl (by decide) _ N (flatF M) rfl (own_below HO3.out ((Below.refl _ _).alloc (Nat.le_refl _) _) (Nat.le_refl _)) _ (some ⟨wd.heap.size, 0, none⟩) 1 1 [.int .i64 u, .int .i64 v, .int .i64 1] rfl (fill_reads (heap_alloc_new wd _)) G1.out G5.out G6.out (by have := HB3.out.size; simp; omega) ?_; intro v1 w1' hown1 hg1 _; obtain ⟨A7, c7, hv1, _⟩ := own_sh hown1; subst hv1; have HO4 := hide hown1; have HB4 : Hid (Below w4.heap.size w4 w1') := hide ((HB3.out.alloc HB3.out.size _).grown hg1 (by have := HB3.out.size; simp; omega) (fun j hj => (HO3.out.lt j hj).1)); clear hown1 hg1)
        go_roundw
        case rel => exact ⟨i + 1, A7, c7, by rw [HN.out.1, ← HNN.out], rfl, by omega, by omega, by rw [HN.out.1, HN.out.2, ← HNN.out]; exact HO4.out, HB4.out⟩
        case measure => simp only [intOf]; omega
    · obtain rfl : i = KT := by omega
      have HM : Hid (mrg FS i = FS) := hide (by rw [HKT.out]; exact mrg_all (fun t ht => (HCN.out t ht).1))
      rw [HM.out] at HO ⊢
      go_wp2_with fail
      go_ret
      exact ⟨O2, c2, rfl, own_base HO.out HBW.out.size, HBW.out.trans (HB.out.mono HBW.out.size)⟩
end Go.Proofs.Ytogicdljbnllgaa

