/- The walk of call.walk: the trades of two lists of wants, told one by one. -/
import Derived.Test.YtogicdljbnllgaaTrade
namespace Go.Proofs.Ytogicdljbnllgaa
open Go.Shelf Go.RowKit Go.Lib Go.Sort Go.Proofs

def encT (t : Trd) : Array Value := #[.agg #[.int .i64 t.1.1, .int .i64 t.1.2], .agg #[.int .i64 t.2.1.1, .int .i64 t.2.1.2], .int .i64 t.2.2]
/-- A unit's place, or none. -/
def unitAt (w : World) (v : Value) : Option (Int × Int) → Prop
  | none => v = .pointer none
  | some u => ∃ k, v = .pointer (some ⟨k, 0, none⟩) ∧ w.heap[k]? = some (.cells #[.int .i64 u.1, .int .i64 u.2] 68 (0, 0))
def RunA (b s : List (Int × Int)) : List Trd × Option (Int × Int) × Option (Int × Int) := runW (ordT b (ordK κB b)) (ordT s (ordK κS s)) 0 0
def WalkP (p : Nat → Prop) (J Jx : List Trd → World → Prop) (R : List Trd × Option (Int × Int) × Option (Int × Int)) (w : World) (e : Ending) (w' : World) : Prop :=
  OutP p w w' ∧ ((∃ n o, e = .returned (.tuple #[n, o]) ∧ unitAt w' n R.2.1 ∧ unitAt w' o R.2.2 ∧ J R.1 w') ∨ ∃ pre, pre <+: R.1 ∧ e = .returned (.tuple #[.pointer none, .pointer none]) ∧ Jx pre w')

/-- Where the walk stands. -/
structure Wk (p : Nat → Prop) (J : List Trd → World → Prop) (w w2 : World) (B0 S0 : List Tri) (i k : Nat) (g h : Int) (wr : World) : Prop where
  out : OutP p w2 wr
  ib : i ≤ B0.length
  ks : k ≤ S0.length
  g0 : 0 ≤ g ∧ 0 ≤ h
  gb : ∀ x, B0[i]? = some x → g < x.2.2
  hs : ∀ x, S0[k]? = some x → h < x.2.2
  j : ∃ pre, runW B0 S0 0 0 = (pre ++ (runW (B0.drop i) (S0.drop k) g h).1, (runW (B0.drop i) (S0.drop k) g h).2) ∧ J pre wr

/-- What the walk's own memory holds. -/
structure Own (A : Option Addr) (c : Nat) (b : List (Int × Int)) (O : Option Addr) (co : Nat) (A' : Option Addr) (c' : Nat) (s : List (Int × Int)) (O' : Option Addr) (co' : Nat) (q : Nat) (W : World) : Prop where
  hb : Wants W W.heap.size A b
  hs : Wants W W.heap.size A' s
  ob : Reads W W.heap.size 1 O b.length ((ordK κB b).map (Value.int .i64))
  os : Reads W W.heap.size 1 O' s.length ((ordK κS s).map (Value.int .i64))
  q0 : W.heap[q]? = some (.cells #[.slice A b.length c, .slice O b.length co] 82 (0, 0))
  q1 : W.heap[q + 1]? = some (.cells #[.slice A' s.length c', .slice O' s.length co'] 82 (0, 0))
section
variable {A : Option Addr} {c : Nat} {b : List (Int × Int)} {O : Option Addr} {co : Nat} {A' : Option Addr} {c' : Nat} {s : List (Int × Int)} {O' : Option Addr} {co' : Nat} {q : Nat} {W W' : World}
theorem Own.outp (h : Own A c b O co A' c' s O' co' q W) {p : Nat → Prop} (ho : OutP p W W') (h0 : ¬ p q) (h1 : ¬ p (q + 1)) (hA : 0 < b.length → ∀ x, A = some x → ¬ p x.block) (hA' : 0 < s.length → ∀ x, A' = some x → ¬ p x.block) (hO : 0 < b.length → ∀ x, O = some x → ¬ p x.block) (hO' : 0 < s.length → ∀ x, O' = some x → ¬ p x.block) : Own A c b O co A' c' s O' co' q W' :=
  ⟨(ho.reads h.hb (by decide) hA).more ho.size, (ho.reads h.hs (by decide) hA').more ho.size, (ho.reads h.ob (by decide) hO).more ho.size, (ho.reads h.os (by decide) hO').more ho.size, (ho.block _ (lt_of_block h.q0) h0).trans h.q0, (ho.block _ (lt_of_block h.q1) h1).trans h.q1⟩
theorem Own.below (h : Own A c b O co A' c' s O' co' q W) (hb : Below W.heap.size W W') : Own A c b O co A' c' s O' co' q W' :=
  h.outp (p := fun _ => False) (OutP.of_below hb) id id (fun _ _ _ => id) (fun _ _ _ => id) (fun _ _ _ => id) (fun _ _ _ => id)
theorem Own.cells (h : Own A c b O co A' c' s O' co' q W) : W.cell? ⟨q, 0, none⟩ = some (.slice A b.length c) ∧ W.cell? ⟨q, 1, none⟩ = some (.slice O b.length co) ∧ W.cell? ⟨q + 1, 0, none⟩ = some (.slice A' s.length c') ∧ W.cell? ⟨q + 1, 1, none⟩ = some (.slice O' s.length co') :=
  ⟨cell_of_row W _ 0 _ _ (0, 0) h.q0, cell_of_row W _ 1 _ _ (0, 0) h.q0, cell_of_row W _ 0 _ _ (0, 0) h.q1, cell_of_row W _ 1 _ _ (0, 0) h.q1⟩
theorem Own.atB (h : Own A c b O co A' c' s O' co' q W) (hl : b.length ≤ 1000000) (i : Nat) (hi : i ≤ 1000000) : Calls Try.prog 40 #[.agg #[.slice A b.length c, .slice O b.length co], .int .i64 (i : Int)] W (ValPost (triV ((ordT b (ordK κB b))[i]?)) W) := by
  rw [← atV_tri (ordK_in κB b)]
  have hz := ordK_len κB b
  have := at_any A c b O co (ordK κB b) i W h.hb (by rw [hz]; exact h.ob) hl (by omega) (ordK_in κB b) hi
  rw [hz] at this
  exact this
theorem Own.atS (h : Own A c b O co A' c' s O' co' q W) (hl : s.length ≤ 1000000) (i : Nat) (hi : i ≤ 1000000) : Calls Try.prog 40 #[.agg #[.slice A' s.length c', .slice O' s.length co'], .int .i64 (i : Int)] W (ValPost (triV ((ordT s (ordK κS s))[i]?)) W) := by
  rw [← atV_tri (ordK_in κS s)]
  have hz := ordK_len κS s
  have := at_any A' c' s O' co' (ordK κS s) i W h.hs (by rw [hz]; exact h.os) hl (by omega) (ordK_in κS s) hi
  rw [hz] at this
  exact this
end

theorem own_not {p : Nat → Prop} {w w1 : World} (hp : ∀ i, p i → i < w.heap.size) {e n c : Nat} {O : Option Addr} {xs : List Value} (h : w1.ownsRow w.heap.size e 1 (.slice O n c) n xs) : ∀ x, O = some x → ¬ p x.block := by
  rintro x rfl hx
  rcases h.2 with ⟨h0, _⟩ | ⟨g, cap, cur, h0, hg, _⟩
  · cases h0
  · injection h0 with h1 _ _
    injection h1 with h1
    subst h1
    have := hp _ hx
    simp only at this
    omega
theorem own_start {A : Option Addr} {c : Nat} {b : List (Int × Int)} {O : Option Addr} {co : Nat} {A' : Option Addr} {c' : Nat} {s : List (Int × Int)} {O' : Option Addr} {co' : Nat} {w w1 : World} (h : Wants w w.heap.size A b) (h' : Wants w w.heap.size A' s) (hb : Below w.heap.size w w1) (ho : w1.ownsRow w.heap.size 3 1 (.slice O b.length co) b.length ((ordK κB b).map (Value.int .i64))) (ho' : w1.ownsRow w.heap.size 3 1 (.slice O' s.length co') s.length ((ordK κS s).map (Value.int .i64))) :
    Own A c b O co A' c' s O' co' w1.heap.size ((w1.alloc (.cells #[.slice A b.length c, .slice O b.length co] 82)).alloc (.cells #[.slice A' s.length c', .slice O' s.length co'] 82)) := by
  have hs : w1.heap.size ≤ (w1.alloc (.cells #[.slice A b.length c, .slice O b.length co] 82)).heap.size := by simp
  have hs2 : (w1.alloc (.cells #[.slice A b.length c, .slice O b.length co] 82)).heap.size ≤ ((w1.alloc (.cells #[.slice A b.length c, .slice O b.length co] 82)).alloc (.cells #[.slice A' s.length c', .slice O' s.length co'] 82)).heap.size := by simp
  refine ⟨((((h.below hb).more hb.size).alloc (Nat.le_refl _) _).more hs |>.alloc (Nat.le_refl _) _).more hs2, ((((h'.below hb).more hb.size).alloc (Nat.le_refl _) _).more hs |>.alloc (Nat.le_refl _) _).more hs2, (((Reads.of_own ho).alloc (Nat.le_refl _) _).more hs |>.alloc (Nat.le_refl _) _).more hs2, (((Reads.of_own ho').alloc (Nat.le_refl _) _).more hs |>.alloc (Nat.le_refl _) _).more hs2, ?_, ?_⟩
  · exact (Below.heap_alloc _ _ _ (by simp)).trans (heap_alloc_new w1 _)
  · simpa using heap_alloc_new (w1.alloc (.cells #[.slice A b.length c, .slice O b.length co] 82)) (.cells #[.slice A' s.length c', .slice O' s.length co'] 82)
theorem drop_none {l : List Tri} {i : Nat} (h : l[i]? = none) : l.drop i = [] := List.drop_eq_nil_of_le (List.getElem?_eq_none_iff.1 h)
theorem drop_some {l : List Tri} {i : Nat} {x : Tri} (h : l[i]? = some x) : l.drop i = x :: l.drop (i + 1) := by
  obtain ⟨hi, rfl⟩ := List.getElem?_eq_some_iff.1 h
  exact List.drop_eq_getElem_cons hi
theorem out_of {p : Nat → Prop} {w w2 wr : World} (h2 : Below w.heap.size w w2) (h : OutP p w2 wr) : OutP p w wr := (OutP.of_below h2).trans h
theorem walk_end {p : Nat → Prop} {J Jx : List Trd → World → Prop} {b s : List (Int × Int)} {w w2 wr w6 : World} {i k q : Nat} {g h : Int} (hb2 : Below w.heap.size w w2) (hk : Wk p J w w2 (ordT b (ordK κB b)) (ordT s (ordK κS s)) i k g h wr) (hb7 : Below wr.heap.size wr w6) (hJ : LowFrom w.heap.size J) (_hq : w.heap.size ≤ q)
    {v v' : Value} {u u' : Option (Int × Int)} (hr : runW ((ordT b (ordK κB b)).drop i) ((ordT s (ordK κS s)).drop k) g h = ([], u, u')) (h1 : unitAt w6 v u) (h2 : unitAt w6 v' u') : WalkP p J Jx (RunA b s) w (.returned (.tuple #[v, v'])) w6 := by
  obtain ⟨pre, he, hj⟩ := hk.j
  rw [hr, List.append_nil] at he
  refine ⟨(out_of hb2 hk.out).trans (OutP.of_below hb7), .inl ⟨v, v', rfl, ?_, ?_, ?_⟩⟩
  · unfold RunA; rw [he]; exact h1
  · unfold RunA; rw [he]; exact h2
  · unfold RunA; rw [he]; exact hJ _ _ _ hj (hb7.mono (Nat.le_trans hb2.size hk.out.size))

theorem meas_b {n m i : Nat} {z k : Int} (h : i < n) (f : z = ((i + 1 : Nat) : Int)) : n - (intOf (.int .i64 z)).toNat + (m - (intOf (.int .i64 k)).toNat) < n - (intOf (.int .i64 (i : Int))).toNat + (m - (intOf (.int .i64 k)).toNat) := by
  subst f
  simp only [intOf, Int.toNat_natCast]
  omega
theorem meas_s {n m k : Nat} {z i : Int} (h : k < m) (f : z = ((k + 1 : Nat) : Int)) : n - (intOf (.int .i64 i)).toNat + (m - (intOf (.int .i64 z)).toNat) < n - (intOf (.int .i64 i)).toNat + (m - (intOf (.int .i64 (k : Int))).toNat) := by
  subst f
  simp only [intOf, Int.toNat_natCast]
  omega
theorem meas_e {n m i k : Nat} {z z' : Int} (h : i < n) (h' : k < m) (f : z = ((i + 1 : Nat) : Int)) (f' : z' = ((k + 1 : Nat) : Int)) : n - (intOf (.int .i64 z)).toNat + (m - (intOf (.int .i64 z')).toNat) < n - (intOf (.int .i64 (i : Int))).toNat + (m - (intOf (.int .i64 (k : Int))).toNat) := by
  subst f f'
  simp only [intOf, Int.toNat_natCast]
  omega
theorem wrap_next {i n : Nat} (h : i < n) (hn : n ≤ 1000000) : wrap64 ((i : Int) + 1) = ((i + 1 : Nat) : Int) := by unfold wrap64; omega
set_option maxRecDepth 100000 in
set_option maxHeartbeats 4000000 in
theorem walk_any (p : Nat → Prop) (J Jx : List Trd → World → Prop) (cf : Nat) (ccb : Array Value) (A : Option Addr) (c : Nat) (b : List (Int × Int)) (A' : Option Addr) (c' : Nat) (s : List (Int × Int)) (w : World) (h : Wants w w.heap.size A b) (h' : Wants w w.heap.size A' s) (hb : b.length ≤ 1000000) (hs : s.length ≤ 1000000)
    (hcb : CountT (ordT b (ordK κB b))) (hcs : CountT (ordT s (ordK κS s)))
    (eg : ∀ args w, (callFunc cf args).run Try.prog w = .ok (.enter cf args) w) (hJ : LowFrom w.heap.size J) (hp : ∀ i, p i → i < w.heap.size) (hA : 0 < b.length → ∀ x, A = some x → ¬ p x.block) (hA' : 0 < s.length → ∀ x, A' = some x → ¬ p x.block)
    (hcf : ∀ pre t W, pre ++ [t] <+: (RunA b s).1 → J pre W → OutP p w W → Calls Try.prog cf (encT t ++ ccb) W (fun e W' => OutP p W W' ∧ ((e = .returned (.bool true) ∧ J (pre ++ [t]) W') ∨ (e = .returned (.bool false) ∧ Jx (pre ++ [t]) W'))))
    (hj : J [] w) :
    Calls Try.prog 26 #[.slice A b.length c, .slice A' s.length c', .func (.func cf) #[] ccb] w (WalkP p J Jx (RunA b s) w) := by
  have HSI := hide (sides_any A c b A' c' s w h h' hb hs)
  have HWB := hide h
  have HWS := hide h'
  have HEG := hide eg
  have HJ := hide hJ
  have HP := hide hp
  have HA := hide hA
  have HA' := hide hA'
  have HCF := hide hcf
  have HJ0 := hide hj
  have HCB := hide hcb
  have HCS := hide hcs
  clear h h' eg hJ hp hA hA' hcf hj hcb hcs
  go_enter Try.func26, Try.ntmps26
  go_upto_region 1 with fail
  go_wp2_with (go_at_call 39; refine (HSI.out).mono ?_; rintro e w1 ⟨v, v', rfl, ho1, ho2, hb1⟩; obtain ⟨O, co, rfl, _⟩ := own_sh ho1; obtain ⟨O', co', rfl, _⟩ := own_sh ho2; have HO1 := hide ho1; have HO2 := hide ho2; have HB1 := hide hb1; clear ho1 ho2 hb1)
  have HOW : Hid (Own A c b O co A' c' s O' co' w1.heap.size ((w1.alloc (.cells #[.slice A b.length c, .slice O b.length co] 82)).alloc (.cells #[.slice A' s.length c', .slice O' s.length co'] 82))) := hide (own_start HWB.out HWS.out HB1.out HO1.out HO2.out)
  have HB2 : Hid (Below w.heap.size w ((w1.alloc (.cells #[.slice A b.length c, .slice O b.length co] 82)).alloc (.cells #[.slice A' s.length c', .slice O' s.length co'] 82))) := hide ((HB1.out.alloc HB1.out.size _).alloc (Nat.le_trans HB1.out.size (by simp)) _)
  have HQ : Hid (w.heap.size ≤ w1.heap.size) := hide HB1.out.size
  have HPO : Hid (∀ x, O = some x → ¬ p x.block) := hide (own_not HP.out HO1.out)
  have HPO' : Hid (∀ x, O' = some x → ¬ p x.block) := hide (own_not HP.out HO2.out)
  generalize (w1.alloc (.cells #[.slice A b.length c, .slice O b.length co] 82)).alloc (.cells #[.slice A' s.length c', .slice O' s.length co'] 82) = w2 at *
  generalize w1.heap.size = q at *
  clear HO1 HO2 HB1 HWB HWS HSI
  have HLB := hide (ordT_len b (ordK κB b))
  have HLS := hide (ordT_len s (ordK κS s))
  have HZB := hide (ordK_len κB b)
  have HZS := hide (ordK_len κS s)
  have HWK : Hid (Wk p J w w2 (ordT b (ordK κB b)) (ordT s (ordK κS s)) 0 0 0 0 w2) := hide ⟨OutP.refl _ _, Nat.zero_le _, Nat.zero_le _, by decide, fun x hx => by have := HCB.out x (List.mem_of_getElem? hx); omega, fun x hx => by have := HCS.out x (List.mem_of_getElem? hx); omega, [], by simp, HJ.out _ _ _ HJ0.out HB2.out⟩
  go_loopw [6, 7, 10, 11, 12, 13] (fun nv ov iv kv gv hv wr => ∃ (i k : Nat) (g h : Int), nv = .pointer none ∧ ov = .pointer none ∧ iv = .int .i64 i ∧ kv = .int .i64 k ∧ gv = .int .i64 g ∧ hv = .int .i64 h ∧ Wk p J w w2 (ordT b (ordK κB b)) (ordT s (ordK κS s)) i k g h wr) (fun _ _ iv kv _ _ _ => (b.length - (intOf iv).toNat) + (s.length - (intOf kv).toNat))
  case atStart => exact ⟨0, 0, 0, 0, rfl, rfl, rfl, rfl, rfl, rfl, HWK.out⟩
  case round =>
    clear HWK HJ0
    obtain ⟨i, k, g, h, rfl, rfl, rfl, rfl, rfl, rfl, hwk⟩ := hrel
    have HK := hide hwk
    have HIB : Hid (i ≤ b.length ∧ k ≤ s.length) := hide (by have h1 := hwk.ib; have h2 := hwk.ks; have h3 := HLB.out; have h4 := HLS.out; have h5 := HZB.out; have h6 := HZS.out; omega)
    have HOR := hide (HOW.out.outp hwk.out (fun e => by have h1 := HP.out _ e; have h2 := HQ.out; omega) (fun e => by have h1 := HP.out _ e; have h2 := HQ.out; omega) HA.out HA'.out (fun _ => HPO.out) (fun _ => HPO'.out))
    clear hwk
    obtain ⟨q0, q1, q2, q3⟩ := HOR.out.cells
    have HAB := hide (HOR.out.atB hb i (by have := HIB.out; omega))
    rcases hB : (ordT b (ordK κB b))[i]? with _ | ⟨x0, x1, x2⟩ <;> rcases hS : (ordT s (ordK κS s))[k]? with _ | ⟨y0, y1, y2⟩
    · -- neither
      simp only [hB, triV] at HAB
      go_upto_region 4 with (go_at_call 40; refine (HAB.out).mono ?_; rintro e w3 ⟨rfl, hb3⟩; have HB3 := hide hb3; clear hb3)
      have HB4 := hide (HB3.out.alloc HB3.out.size (.cells #[.int .i64 0, .int .i64 0] 68))
      have HU0 : Hid ((w3.alloc (.cells #[.int .i64 0, .int .i64 0] 68)).heap[w3.heap.size]? = some (.cells #[.int .i64 0, .int .i64 0] 68 (0, 0))) := hide (heap_alloc_new w3 _)
      generalize w3.alloc (.cells #[.int .i64 0, .int .i64 0] 68) = w4 at *
      generalize w3.heap.size = u0 at *
      have HO4 := hide (HOR.out.below HB4.out)
      clear q0 q1 q2 q3 HB3
      obtain ⟨q0, q1, q2, q3⟩ := HO4.out.cells
      have HAS := hide (HO4.out.atS hs k (by have := HIB.out; omega))
      simp only [hS, triV] at HAS
      go_upto_region 5 with (go_at_call 40; refine (HAS.out).mono ?_; rintro e w5 ⟨rfl, hb5⟩; have HB5 := hide hb5; clear hb5)
      have HB6 := hide (HB5.out.alloc HB5.out.size (.cells #[.int .i64 0, .int .i64 0] 68))
      have HU1 : Hid ((w5.alloc (.cells #[.int .i64 0, .int .i64 0] 68)).heap[w5.heap.size]? = some (.cells #[.int .i64 0, .int .i64 0] 68 (0, 0))) := hide (heap_alloc_new w5 _)
      generalize w5.alloc (.cells #[.int .i64 0, .int .i64 0] 68) = w6 at *
      generalize w5.heap.size = u1 at *
      have HV0 := hide ((HB6.out.block _ (lt_of_block HU0.out)).trans HU0.out)
      have HB7 := hide (HB4.out.trans (HB6.out.mono HB4.out.size))
      have u00 := cell_of_row w6 u0 0 _ _ (0, 0) HV0.out
      have u01 := cell_of_row w6 u0 1 _ _ (0, 0) HV0.out
      have u10 := cell_of_row w6 u1 0 _ _ (0, 0) HU1.out
      have u11 := cell_of_row w6 u1 1 _ _ (0, 0) HU1.out
      simp only [List.getElem?_toArray, List.getElem?_cons_zero, List.getElem?_cons_succ] at u00 u01 u10 u11
      clear q0 q1 q2 q3 HB5 HU0 HAS HAB
      go_wp2_with fail
      refine bodyPost_ret (v := .tuple #[.pointer none, .pointer none]) (by simp [results, Try.results26, go_sem]) rfl ?_
      exact walk_end (u := none) (u' := none) HB2.out HK.out HB7.out HJ.out HQ.out (by rw [drop_none hB, drop_none hS]; simp [runW]) (rfl) (rfl)
    · -- a seller alone
      simp only [hB, triV] at HAB
      go_upto_region 4 with (go_at_call 40; refine (HAB.out).mono ?_; rintro e w3 ⟨rfl, hb3⟩; have HB3 := hide hb3; clear hb3)
      have HB4 := hide (HB3.out.alloc HB3.out.size (.cells #[.int .i64 0, .int .i64 0] 68))
      have HU0 : Hid ((w3.alloc (.cells #[.int .i64 0, .int .i64 0] 68)).heap[w3.heap.size]? = some (.cells #[.int .i64 0, .int .i64 0] 68 (0, 0))) := hide (heap_alloc_new w3 _)
      generalize w3.alloc (.cells #[.int .i64 0, .int .i64 0] 68) = w4 at *
      generalize w3.heap.size = u0 at *
      have HO4 := hide (HOR.out.below HB4.out)
      clear q0 q1 q2 q3 HB3
      obtain ⟨q0, q1, q2, q3⟩ := HO4.out.cells
      have HAS := hide (HO4.out.atS hs k (by have := HIB.out; omega))
      simp only [hS, triV] at HAS
      go_upto_region 5 with (go_at_call 40; refine (HAS.out).mono ?_; rintro e w5 ⟨rfl, hb5⟩; have HB5 := hide hb5; clear hb5)
      have HB6 := hide (HB5.out.alloc HB5.out.size (.cells #[.int .i64 y0, .int .i64 y1] 68))
      have HU1 : Hid ((w5.alloc (.cells #[.int .i64 y0, .int .i64 y1] 68)).heap[w5.heap.size]? = some (.cells #[.int .i64 y0, .int .i64 y1] 68 (0, 0))) := hide (heap_alloc_new w5 _)
      generalize w5.alloc (.cells #[.int .i64 y0, .int .i64 y1] 68) = w6 at *
      generalize w5.heap.size = u1 at *
      have HV0 := hide ((HB6.out.block _ (lt_of_block HU0.out)).trans HU0.out)
      have HB7 := hide (HB4.out.trans (HB6.out.mono HB4.out.size))
      have u00 := cell_of_row w6 u0 0 _ _ (0, 0) HV0.out
      have u01 := cell_of_row w6 u0 1 _ _ (0, 0) HV0.out
      have u10 := cell_of_row w6 u1 0 _ _ (0, 0) HU1.out
      have u11 := cell_of_row w6 u1 1 _ _ (0, 0) HU1.out
      simp only [List.getElem?_toArray, List.getElem?_cons_zero, List.getElem?_cons_succ] at u00 u01 u10 u11
      clear q0 q1 q2 q3 HB5 HU0 HAS HAB
      go_wp2_with fail
      refine bodyPost_ret (v := .tuple #[.pointer none, .pointer (some ⟨u1, 0, none⟩)]) (by simp [results, Try.results26, go_sem]) rfl ?_
      exact walk_end (u := none) (u' := some (y0, y1)) HB2.out HK.out HB7.out HJ.out HQ.out (by rw [drop_none hB, drop_some hS]; simp [runW, unitT]) (rfl) (⟨_, rfl, HU1.out⟩)
    · -- a buyer alone
      simp only [hB, triV] at HAB
      go_upto_region 4 with (go_at_call 40; refine (HAB.out).mono ?_; rintro e w3 ⟨rfl, hb3⟩; have HB3 := hide hb3; clear hb3)
      have HB4 := hide (HB3.out.alloc HB3.out.size (.cells #[.int .i64 x0, .int .i64 x1] 68))
      have HU0 : Hid ((w3.alloc (.cells #[.int .i64 x0, .int .i64 x1] 68)).heap[w3.heap.size]? = some (.cells #[.int .i64 x0, .int .i64 x1] 68 (0, 0))) := hide (heap_alloc_new w3 _)
      generalize w3.alloc (.cells #[.int .i64 x0, .int .i64 x1] 68) = w4 at *
      generalize w3.heap.size = u0 at *
      have HO4 := hide (HOR.out.below HB4.out)
      clear q0 q1 q2 q3 HB3
      obtain ⟨q0, q1, q2, q3⟩ := HO4.out.cells
      have HAS := hide (HO4.out.atS hs k (by have := HIB.out; omega))
      simp only [hS, triV] at HAS
      go_upto_region 5 with (go_at_call 40; refine (HAS.out).mono ?_; rintro e w5 ⟨rfl, hb5⟩; have HB5 := hide hb5; clear hb5)
      have HB6 := hide (HB5.out.alloc HB5.out.size (.cells #[.int .i64 0, .int .i64 0] 68))
      have HU1 : Hid ((w5.alloc (.cells #[.int .i64 0, .int .i64 0] 68)).heap[w5.heap.size]? = some (.cells #[.int .i64 0, .int .i64 0] 68 (0, 0))) := hide (heap_alloc_new w5 _)
      generalize w5.alloc (.cells #[.int .i64 0, .int .i64 0] 68) = w6 at *
      generalize w5.heap.size = u1 at *
      have HV0 := hide ((HB6.out.block _ (lt_of_block HU0.out)).trans HU0.out)
      have HB7 := hide (HB4.out.trans (HB6.out.mono HB4.out.size))
      have u00 := cell_of_row w6 u0 0 _ _ (0, 0) HV0.out
      have u01 := cell_of_row w6 u0 1 _ _ (0, 0) HV0.out
      have u10 := cell_of_row w6 u1 0 _ _ (0, 0) HU1.out
      have u11 := cell_of_row w6 u1 1 _ _ (0, 0) HU1.out
      simp only [List.getElem?_toArray, List.getElem?_cons_zero, List.getElem?_cons_succ] at u00 u01 u10 u11
      clear q0 q1 q2 q3 HB5 HU0 HAS HAB
      go_wp2_with fail
      refine bodyPost_ret (v := .tuple #[.pointer (some ⟨u0, 0, none⟩), .pointer none]) (by simp [results, Try.results26, go_sem]) rfl ?_
      exact walk_end (u := some (x0, x1)) (u' := none) HB2.out HK.out HB7.out HJ.out HQ.out (by rw [drop_some hB, drop_none hS]; simp [runW, unitT]) (⟨_, rfl, HV0.out⟩) (rfl)
    · -- both
      simp only [hB, triV] at HAB
      go_upto_region 4 with (go_at_call 40; refine (HAB.out).mono ?_; rintro e w3 ⟨rfl, hb3⟩; have HB3 := hide hb3; clear hb3)
      have HB4 := hide (HB3.out.alloc HB3.out.size (.cells #[.int .i64 x0, .int .i64 x1] 68))
      have HU0 : Hid ((w3.alloc (.cells #[.int .i64 x0, .int .i64 x1] 68)).heap[w3.heap.size]? = some (.cells #[.int .i64 x0, .int .i64 x1] 68 (0, 0))) := hide (heap_alloc_new w3 _)
      generalize w3.alloc (.cells #[.int .i64 x0, .int .i64 x1] 68) = w4 at *
      generalize w3.heap.size = u0 at *
      have HO4 := hide (HOR.out.below HB4.out)
      clear q0 q1 q2 q3 HB3
      obtain ⟨q0, q1, q2, q3⟩ := HO4.out.cells
      have HAS := hide (HO4.out.atS hs k (by have := HIB.out; omega))
      simp only [hS, triV] at HAS
      go_upto_region 5 with (go_at_call 40; refine (HAS.out).mono ?_; rintro e w5 ⟨rfl, hb5⟩; have HB5 := hide hb5; clear hb5)
      have HB6 := hide (HB5.out.alloc HB5.out.size (.cells #[.int .i64 y0, .int .i64 y1] 68))
      have HU1 : Hid ((w5.alloc (.cells #[.int .i64 y0, .int .i64 y1] 68)).heap[w5.heap.size]? = some (.cells #[.int .i64 y0, .int .i64 y1] 68 (0, 0))) := hide (heap_alloc_new w5 _)
      generalize w5.alloc (.cells #[.int .i64 y0, .int .i64 y1] 68) = w6 at *
      generalize w5.heap.size = u1 at *
      have HV0 := hide ((HB6.out.block _ (lt_of_block HU0.out)).trans HU0.out)
      have HB7 := hide (HB4.out.trans (HB6.out.mono HB4.out.size))
      have u00 := cell_of_row w6 u0 0 _ _ (0, 0) HV0.out
      have u01 := cell_of_row w6 u0 1 _ _ (0, 0) HV0.out
      have u10 := cell_of_row w6 u1 0 _ _ (0, 0) HU1.out
      have u11 := cell_of_row w6 u1 1 _ _ (0, 0) HU1.out
      simp only [List.getElem?_toArray, List.getElem?_cons_zero, List.getElem?_cons_succ] at u00 u01 u10 u11
      clear q0 q1 q2 q3 HB5 HU0 HAS HAB
      have HXB := hide (HCB.out _ (List.mem_of_getElem? hB))
      have HYS := hide (HCS.out _ (List.mem_of_getElem? hS))
      have HGB : Hid (0 ≤ g ∧ g < x2 ∧ 0 ≤ h ∧ h < y2 ∧ 1 ≤ x2 ∧ x2 ≤ 64 ∧ 1 ≤ y2 ∧ y2 ≤ 64) := hide ⟨HK.out.g0.1, HK.out.gb _ hB, HK.out.g0.2, HK.out.hs _ hS, HXB.out.1, HXB.out.2, HYS.out.1, HYS.out.2⟩
      have HDB := hide (drop_some hB)
      have HDS := hide (drop_some hS)
      have HIK : Hid (i < b.length ∧ k < s.length) := hide (by have h1 := (List.getElem?_eq_some_iff.1 hB).1; have h2 := (List.getElem?_eq_some_iff.1 hS).1; have h3 := HLB.out; have h4 := HLS.out; have h5 := HZB.out; have h6 := HZS.out; omega)
      have HBI := hide hB
      have HSK := hide hS
      clear HXB HYS hB hS
      by_cases hlow : x1 < y1
      · go_wp2_with fail
        refine bodyPost_ret (v := .tuple #[.pointer (some ⟨u0, 0, none⟩), .pointer (some ⟨u1, 0, none⟩)]) (by simp [results, Try.results26, go_sem]) rfl ?_
        exact walk_end (u := some (x0, x1)) (u' := some (y0, y1)) HB2.out HK.out HB7.out HJ.out HQ.out (by rw [HDB.out, HDS.out]; exact runW_low _ _ _ _ hlow) (⟨_, rfl, HV0.out⟩) (⟨_, rfl, HU1.out⟩)
      · have hmin : True := trivial
        rcases Int.lt_trichotomy (x2 - g) (y2 - h) with hlt | heq | hgt
        · have HTR : Hid (runW ((ordT b (ordK κB b)).drop i) ((ordT s (ordK κS s)).drop k) g h = (((x0, x1), (y0, y1), x2 - g) :: (runW ((ordT b (ordK κB b)).drop (i + 1)) ((ordT s (ordK κS s)).drop k) 0 (h + (x2 - g))).1, (runW ((ordT b (ordK κB b)).drop (i + 1)) ((ordT s (ordK κS s)).drop k) 0 (h + (x2 - g))).2)) := hide (by rw [HDB.out, HDS.out]; rw [← HDS.out]; exact (by rw [HDS.out]; exact runW_b _ _ _ _ hlow hlt))
          obtain ⟨pre, hrun, hjp⟩ := HK.out.j
          rw [HTR.out] at hrun
          have HRUN := hide hrun
          have HCA := hide (HCF.out pre ((x0, x1), (y0, y1), x2 - g) w6 (by show _ <+: (runW _ _ 0 0).1; rw [hrun]; exact ⟨_, by rw [List.append_assoc]; rfl⟩) (HJ.out _ _ _ hjp (HB7.out.mono (Nat.le_trans HB2.out.size HK.out.out.size))) ((out_of HB2.out HK.out.out).trans (OutP.of_below HB7.out)))
          clear hrun hjp HTR
          simp only [encT] at HCA
          have e1 : wrap64 (x2 - g) = x2 - g := by have := HGB.out; unfold wrap64; omega
          have e2 : wrap64 (y2 - h) = y2 - h := by have := HGB.out; unfold wrap64; omega
          have e3 : min (x2 - g) (y2 - h) = x2 - g := by omega
          have eg := HEG.out
          go_upto_region 12 with fail
          go_wp2_with fail
          refine (HCA.out).mono ?_
          rintro e w7 ⟨ho7, (⟨rfl, hj7⟩ | ⟨rfl, hx7⟩)⟩
          · have HO7 := hide ho7
            have HJ7 := hide hj7
            have f1 : wrap64 (g + (x2 - g)) = x2 := by have := HGB.out; unfold wrap64; omega
            have f2 : wrap64 (h + (x2 - g)) = h + (x2 - g) := by have := HGB.out; unfold wrap64; omega
            have f3 : (h + (x2 - g) == y2) = false := by simp; omega
            have f4 : wrap64 ((i : Int) + 1) = ((i + 1 : Nat) : Int) := wrap_next HIK.out.1 hb
            have f5 : wrap64 ((k : Int) + 1) = ((k + 1 : Nat) : Int) := wrap_next HIK.out.2 hs
            clear ho7 hj7
            go_wp2_with fail
            go_roundw
            case rel => exact ⟨i + 1, k, 0, h + (x2 - g), rfl, rfl, by go_num, by go_num, by first | rfl | rw [f1], by first | rfl | rw [f2], ⟨HK.out.out.trans ((OutP.of_below HB7.out).trans HO7.out), by have h1 := HIK.out; have h2 := HLB.out; have h3 := HZB.out; omega, HK.out.ks, by have := HGB.out; omega, fun x hx => by have := HCB.out x (List.mem_of_getElem? hx); omega, fun x hx => by rw [HSK.out] at hx; injection hx with hx; subst hx; have := HGB.out; simp only; omega, pre ++ [((x0, x1), (y0, y1), x2 - g)], by rw [HRUN.out, List.append_assoc]; rfl, HJ7.out⟩⟩
            case measure =>
              exact meas_b HIK.out.1 f4
          · have HO7 := hide ho7
            have HX7 := hide hx7
            clear ho7 hx7
            go_wp2_with fail
            refine bodyPost_ret (v := .tuple #[.pointer none, .pointer none]) (by simp [results, Try.results26, go_sem]) rfl ?_
            exact ⟨(out_of HB2.out HK.out.out).trans ((OutP.of_below HB7.out).trans HO7.out), .inr ⟨pre ++ [((x0, x1), (y0, y1), x2 - g)], by show _ <+: (runW _ _ 0 0).1; rw [HRUN.out]; exact ⟨_, by rw [List.append_assoc]; rfl⟩, rfl, HX7.out⟩⟩
        · have HTR : Hid (runW ((ordT b (ordK κB b)).drop i) ((ordT s (ordK κS s)).drop k) g h = (((x0, x1), (y0, y1), y2 - h) :: (runW ((ordT b (ordK κB b)).drop (i + 1)) ((ordT s (ordK κS s)).drop (k + 1)) 0 0).1, (runW ((ordT b (ordK κB b)).drop (i + 1)) ((ordT s (ordK κS s)).drop (k + 1)) 0 0).2)) := hide (by rw [HDB.out, HDS.out]; exact (by rw [← heq]; exact runW_e _ _ _ _ hlow heq))
          obtain ⟨pre, hrun, hjp⟩ := HK.out.j
          rw [HTR.out] at hrun
          have HRUN := hide hrun
          have HCA := hide (HCF.out pre ((x0, x1), (y0, y1), y2 - h) w6 (by show _ <+: (runW _ _ 0 0).1; rw [hrun]; exact ⟨_, by rw [List.append_assoc]; rfl⟩) (HJ.out _ _ _ hjp (HB7.out.mono (Nat.le_trans HB2.out.size HK.out.out.size))) ((out_of HB2.out HK.out.out).trans (OutP.of_below HB7.out)))
          clear hrun hjp HTR
          simp only [encT] at HCA
          have e1 : wrap64 (x2 - g) = x2 - g := by have := HGB.out; unfold wrap64; omega
          have e2 : wrap64 (y2 - h) = y2 - h := by have := HGB.out; unfold wrap64; omega
          have e3 : min (x2 - g) (y2 - h) = y2 - h := by omega
          have eg := HEG.out
          go_upto_region 12 with fail
          go_wp2_with fail
          refine (HCA.out).mono ?_
          rintro e w7 ⟨ho7, (⟨rfl, hj7⟩ | ⟨rfl, hx7⟩)⟩
          · have HO7 := hide ho7
            have HJ7 := hide hj7
            have f1 : wrap64 (g + (y2 - h)) = x2 := by have := HGB.out; unfold wrap64; omega
            have f2 : wrap64 (h + (y2 - h)) = y2 := by have := HGB.out; unfold wrap64; omega
            have f3 : True := trivial
            have f4 : wrap64 ((i : Int) + 1) = ((i + 1 : Nat) : Int) := wrap_next HIK.out.1 hb
            have f5 : wrap64 ((k : Int) + 1) = ((k + 1 : Nat) : Int) := wrap_next HIK.out.2 hs
            clear ho7 hj7
            go_wp2_with fail
            go_roundw
            case rel => exact ⟨i + 1, k + 1, 0, 0, rfl, rfl, by go_num, by go_num, by first | rfl | rw [f1], by first | rfl | rw [f2], ⟨HK.out.out.trans ((OutP.of_below HB7.out).trans HO7.out), by have h1 := HIK.out; have h2 := HLB.out; have h3 := HZB.out; omega, by have h1 := HIK.out; have h2 := HLS.out; have h3 := HZS.out; omega, by have := HGB.out; omega, fun x hx => by have := HCB.out x (List.mem_of_getElem? hx); omega, fun x hx => by have := HCS.out x (List.mem_of_getElem? hx); omega, pre ++ [((x0, x1), (y0, y1), y2 - h)], by rw [HRUN.out, List.append_assoc]; rfl, HJ7.out⟩⟩
            case measure =>
              exact meas_e HIK.out.1 HIK.out.2 f4 f5
          · have HO7 := hide ho7
            have HX7 := hide hx7
            clear ho7 hx7
            go_wp2_with fail
            refine bodyPost_ret (v := .tuple #[.pointer none, .pointer none]) (by simp [results, Try.results26, go_sem]) rfl ?_
            exact ⟨(out_of HB2.out HK.out.out).trans ((OutP.of_below HB7.out).trans HO7.out), .inr ⟨pre ++ [((x0, x1), (y0, y1), y2 - h)], by show _ <+: (runW _ _ 0 0).1; rw [HRUN.out]; exact ⟨_, by rw [List.append_assoc]; rfl⟩, rfl, HX7.out⟩⟩
        · have HTR : Hid (runW ((ordT b (ordK κB b)).drop i) ((ordT s (ordK κS s)).drop k) g h = (((x0, x1), (y0, y1), y2 - h) :: (runW ((ordT b (ordK κB b)).drop i) ((ordT s (ordK κS s)).drop (k + 1)) (g + (y2 - h)) 0).1, (runW ((ordT b (ordK κB b)).drop i) ((ordT s (ordK κS s)).drop (k + 1)) (g + (y2 - h)) 0).2)) := hide (by rw [HDB.out, HDS.out]; exact runW_s _ _ _ _ hlow hgt)
          obtain ⟨pre, hrun, hjp⟩ := HK.out.j
          rw [HTR.out] at hrun
          have HRUN := hide hrun
          have HCA := hide (HCF.out pre ((x0, x1), (y0, y1), y2 - h) w6 (by show _ <+: (runW _ _ 0 0).1; rw [hrun]; exact ⟨_, by rw [List.append_assoc]; rfl⟩) (HJ.out _ _ _ hjp (HB7.out.mono (Nat.le_trans HB2.out.size HK.out.out.size))) ((out_of HB2.out HK.out.out).trans (OutP.of_below HB7.out)))
          clear hrun hjp HTR
          simp only [encT] at HCA
          have e1 : wrap64 (x2 - g) = x2 - g := by have := HGB.out; unfold wrap64; omega
          have e2 : wrap64 (y2 - h) = y2 - h := by have := HGB.out; unfold wrap64; omega
          have e3 : min (x2 - g) (y2 - h) = y2 - h := by omega
          have eg := HEG.out
          go_upto_region 12 with fail
          go_wp2_with fail
          refine (HCA.out).mono ?_
          rintro e w7 ⟨ho7, (⟨rfl, hj7⟩ | ⟨rfl, hx7⟩)⟩
          · have HO7 := hide ho7
            have HJ7 := hide hj7
            have f1 : wrap64 (g + (y2 - h)) = g + (y2 - h) := by have := HGB.out; unfold wrap64; omega
            have f2 : wrap64 (h + (y2 - h)) = y2 := by have := HGB.out; unfold wrap64; omega
            have f3 : (g + (y2 - h) == x2) = false := by simp; omega
            have f4 : wrap64 ((i : Int) + 1) = ((i + 1 : Nat) : Int) := wrap_next HIK.out.1 hb
            have f5 : wrap64 ((k : Int) + 1) = ((k + 1 : Nat) : Int) := wrap_next HIK.out.2 hs
            clear ho7 hj7
            go_wp2_with fail
            go_roundw
            case rel => exact ⟨i, k + 1, g + (y2 - h), 0, rfl, rfl, by go_num, by go_num, by first | rfl | rw [f1], by first | rfl | rw [f2], ⟨HK.out.out.trans ((OutP.of_below HB7.out).trans HO7.out), HK.out.ib, by have h1 := HIK.out; have h2 := HLS.out; have h3 := HZS.out; omega, by have := HGB.out; omega, fun x hx => by rw [HBI.out] at hx; injection hx with hx; subst hx; have := HGB.out; simp only; omega, fun x hx => by have := HCS.out x (List.mem_of_getElem? hx); omega, pre ++ [((x0, x1), (y0, y1), y2 - h)], by rw [HRUN.out, List.append_assoc]; rfl, HJ7.out⟩⟩
            case measure =>
              exact meas_s HIK.out.2 f5
          · have HO7 := hide ho7
            have HX7 := hide hx7
            clear ho7 hx7
            go_wp2_with fail
            refine bodyPost_ret (v := .tuple #[.pointer none, .pointer none]) (by simp [results, Try.results26, go_sem]) rfl ?_
            exact ⟨(out_of HB2.out HK.out.out).trans ((OutP.of_below HB7.out).trans HO7.out), .inr ⟨pre ++ [((x0, x1), (y0, y1), y2 - h)], by show _ <+: (runW _ _ 0 0).1; rw [HRUN.out]; exact ⟨_, by rw [List.append_assoc]; rfl⟩, rfl, HX7.out⟩⟩
end Go.Proofs.Ytogicdljbnllgaa
