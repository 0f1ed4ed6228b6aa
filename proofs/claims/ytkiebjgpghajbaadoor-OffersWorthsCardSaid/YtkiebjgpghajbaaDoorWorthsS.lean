/- The walk of the iterator of offers.Worths: what a list is worth for all sets. -/
import Derived.Test.YtkiebjgpghajbaaDoorSubs
import Derived.Test.YtkiebjgpghajbaaDoorOffA
import Derived.Test.YtkiebjgpghajbaaDoorOffC
namespace Go.Proofs.YtkiebjgpghajbaaDoor
open Go.RowKit Go.Shelf

attribute [local go_sem] Oper.semAt_some

theorem roundIn_in {m m' l' : Nat} {P : Program} {l : Nat} {f : FuncId} {tmps : Array Value} {assign body : Code} {w : World} {R : Ending → World → Prop} (h : RoundIn Fence.wide m P l f tmps assign body w R) : RoundIn (Fence.wide.inRound l') m' P l f tmps assign body w R :=
  ⟨h.1, fun c cs _ => h.2 c cs (room_wide _)⟩
theorem callsIn_in {m l' : Nat} {P : Program} {f : FuncId} {args : Array Value} {w : World} {R : Ending → World → Prop} (h : Calls P f args w R) : CallsIn (Fence.wide.inRound l') m P f args w R :=
  (callsIn_wide (n := m)).2 h
theorem offs_out {p : Nat → Prop} {W W' : World} {A : Option Addr} {l : List Offer} (h : Offs W W.heap.size A l) (ho : OutP p W W') (hp : ∀ g o, A = some ⟨g, o, none⟩ → ¬ p g) : Offs W' W'.heap.size A l := by
  refine ⟨h.1, fun hn => ?_⟩
  obtain ⟨b, o, e, hb, hc⟩ := h.2 hn
  refine ⟨b, o, e, Nat.lt_of_lt_of_le hb ho.size, fun j u hu => ?_⟩
  rw [← hc j u hu]
  exact World.cell?_of_block (ho.block b hb (hp b o e))
theorem grown_below {A B : World} (h : Below A.heap.size A B) : A.grownBy B none := ⟨h.os, h.tape, h.output, h.size, fun k hk _ => h.block k hk⟩
theorem ownFrom_later {β : Type} {B : Nat} {J : β → World → Prop} (h : OwnFrom B J) {s : β} {W W' : World} (hs : J s W) (hb : Below W.heap.size W W') : J s W' :=
  h s W W' none hs (grown_below hb) (fun r e => by cases e)
theorem ownFrom_more {β : Type} {B B' : Nat} {J : β → World → Prop} (h : OwnFrom B J) (hB : B ≤ B') : OwnFrom B' J := fun s W W' row hs hg hr => h s W W' row hs hg (fun r e => ⟨Nat.le_trans hB (hr r e).1, (hr r e).2⟩)
theorem ownFrom_out {β : Type} {p : Nat → Prop} {w0 : World} : OwnFrom w0.heap.size (fun (_ : β) W => OutP p w0 W) := fun _ A C row hs hg hr => ⟨Nat.le_trans hs.size hg.size, fun k hk hn => (hg.block k (Nat.lt_of_lt_of_le hk hs.size) (fun e => by have := (hr k e.symm).1; omega)).trans (hs.block k hk hn)⟩

def encW (l : List Offer) (g : Nat) : Array Value := #[.int .u32 (g : Int), .int .i64 (worthL g l).1]
def setsOf (n : Int) : List Nat := if n < 1 ∨ 10 < n then [] else List.range (2 ^ n.toNat)
set_option maxRecDepth 100000 in
set_option maxHeartbeats 4000000 in
theorem worths_good {n : Nat} (h1 : 1 ≤ n) (h10 : n ≤ 10) {l : List Offer} (hl : l.length ≤ 1000000) (hwl : OWide l) {A1 : Option Addr} {c1 b1 b2 : Nat} {p : Nat → Prop} {W : World} (hb1 : W.heap[b1]? = some (.cells #[.int .i64 (n : Int)] 3 (0, 0))) (hb2 : W.heap[b2]? = some (.cells #[.slice A1 l.length c1] 22 (0, 0)))
    (ho : Offs W W.heap.size A1 l) (hp1 : ¬ p b1) (hp2 : ¬ p b2) (hpo : ∀ g o, A1 = some ⟨g, o, none⟩ → ¬ p g) (hpW : ∀ k, p k → k < W.heap.size) :
    SeqO p Tryd.prog 45 #[.pointer (some ⟨b1, 0, none⟩), .pointer (some ⟨b2, 0, none⟩)] (encW l) (fun xs => xs = List.range (2 ^ n)) (fun pre => pre <+: List.range (2 ^ n)) (fun pre x => x = pre.length ∧ x < 2 ^ n) W := by
  intro L J Jx hJ hJx hY h0
  have hal : allI n = 2 ^ n - 1 ∧ allE n = 0 := by
    constructor
    · unfold allI
      rw [if_neg (by omega)]
      rfl
    · unfold allE
      rw [if_neg (by omega)]
  have HAL := hide (all_any (n : Int) (W.alloc (.cells #[.func (.yield L) #[] #[]] 76)))
  unfold AllPost at HAL
  rw [hal.1, hal.2] at HAL
  have c0 : (W.alloc (.cells #[.func (.yield L) #[] #[]] 76)).cell? ⟨b1, 0, none⟩ = some (.int .i64 (n : Int)) := cell_of_row _ b1 0 _ _ (0, 0) ((Below.heap_alloc _ _ _ (lt_of_block hb1)).trans hb1)
  refine (callsIn_wide (n := 6)).1 ?_
  refine callsIn_of_wp_marks Tryd.func45 rfl trivial ?_ rfl
  simp only [Tryd.ntmps45, List.size_toArray, List.length_cons, List.length_nil, Nat.reduceAdd, Nat.reduceSub, Array.replicate_succ, Array.replicate_zero, List.push_toArray, List.append_toArray, List.nil_append, List.cons_append]
  have hn1 : ¬ ((n : Int) < 1) := by omega
  have hn2 : ¬ ((10 : Int) < (n : Int)) := by omega
  have HSB := hide (subsets_any (2 ^ n - 1))
  have h31 : 2 ^ n ≤ 2147483648 := Nat.le_trans (Nat.pow_le_pow_right (n := 2) (by omega) (show n ≤ 31 by omega)) (Nat.le_of_eq rfl)
  have hn3 : decide ((n : Int) < 1) = false := by simp; omega
  have hn4 : decide ((10 : Int) < (n : Int)) = false := by simp; omega
  obtain ⟨al, hal2⟩ : ∃ al, al = 2 ^ n - 1 := ⟨_, rfl⟩
  rw [← hal2] at HAL HSB
  have HAL2 := hide hal2
  have HY := hide hY
  have HJ := hide hJ
  have HJX := hide hJx
  have HP := hide hpW
  clear hal hY hJ hJx hal2
  gi_wp2_with fail
  refine ⟨trivial, (callsIn_wide.2 HAL.out).mono ?_⟩
  rintro e _ ⟨rfl, rfl⟩
  gi_wp2_with fail
  refine ⟨trivial, (callsIn_wide.2 (HSB.out _)).mono ?_⟩
  rintro e _ ⟨rfl, rfl⟩
  gi_wp2_with fail
  have HB5 : Hid (Below W.heap.size W ((W.alloc (.cells #[.func (.yield L) #[] #[]] 76)).alloc (.cells #[.int .u32 (al : Int)] 50))) := hide (((Below.refl _ _).alloc (Nat.le_refl _) _).alloc (by simp) _)
  have hz5 : ((W.alloc (.cells #[.func (.yield L) #[] #[]] 76)).alloc (.cells #[.int .u32 (al : Int)] 50)).heap.size = W.heap.size + 2 := by simp
  have HBX : Hid (((W.alloc (.cells #[.func (.yield L) #[] #[]] 76)).alloc (.cells #[.int .u32 (al : Int)] 50)).heap[W.heap.size]? = some (.cells #[.func (.yield L) #[] #[]] 76 (0, 0))) := hide (by rw [Below.heap_alloc _ _ _ (by simp)]; exact heap_alloc_new W _)
  have HBS : Hid (((W.alloc (.cells #[.func (.yield L) #[] #[]] 76)).alloc (.cells #[.int .u32 (al : Int)] 50)).heap[W.heap.size + 1]? = some (.cells #[.int .u32 (al : Int)] 50 (0, 0))) := hide (by
    have := heap_alloc_new (W.alloc (.cells #[.func (.yield L) #[] #[]] 76)) (.cells #[.int .u32 (al : Int)] 50)
    simpa using this)
  have HJ5 : Hid (J [] ((W.alloc (.cells #[.func (.yield L) #[] #[]] 76)).alloc (.cells #[.int .u32 (al : Int)] 50))) := hide (ownFrom_later HJ.out h0 HB5.out)
  have HB2 := hide ((HB5.out.block b2 (lt_of_block hb2)).trans hb2)
  have HBL2 : Hid (b2 < W.heap.size) := hide (lt_of_block hb2)
  have HOF := hide ho
  clear c0 hb1 hb2 h0 ho hn3 hn4 hn1 hn2
  generalize (W.alloc (.cells #[.func (.yield L) #[] #[]] 76)).alloc (.cells #[.int .u32 (al : Int)] 50) = w5 at *
  refine wpIn_rangeSeq (α := Nat) (encs := encG) (gf := 61) (lb := #[.pointer (some ⟨W.heap.size + 1, 0, none⟩)]) rfl (enters_of Tryd.func61 (by kernel_rfl) rfl) p (fun h => by have := HP.out _ h; omega) (fun h => by have := HP.out _ h; omega)
    (fun W2 hb hz => subs_seq (n := n) (by omega) (b := W.heap.size + 1) (by rw [← HAL2.out]; exact (hb.block _ (by omega)).trans HBS.out) (by rintro (h | h); have := HP.out _ h; omega; omega)) (fun _ => rfl)
    (fun pre W' => J pre W' ∧ OutP p w5 W') (fun c pre W' => c = .ret ∧ Jx pre W')
    (OwnFrom.and (ownFrom_more HJ.out (by omega)) ownFrom_out) (fun c s A C row hs hg hr => ⟨hs.1, ownFrom_more HJX.out (B' := w5.heap.size) (by omega) s A C row hs.2 hg hr⟩) ⟨HJ5.out, OutP.refl _ _⟩
    (fun x => { tmps := #[.func (.yield L) #[] #[], .pointer (some ⟨b1, 0, none⟩), .pointer (some ⟨b2, 0, none⟩), .pointer (some ⟨W.heap.size, 0, none⟩), .int .u32 (al : Int), .int .i64 0, .int .u32 (x : Int), undef, undef, .tuple #[.int .u32 (al : Int), .int .i64 0], .int .i64 (n : Int), .tuple #[.int .u32 (al : Int), .int .i64 0], .int .u32 (al : Int), .int .i64 0, .int .i64 (n : Int), .bool false, .bool false, .int .i64 (n : Int), .bool false, .bool false, .bool false, .int .i64 0, .bool false, .bool false, .int .u32 (al : Int), .func (.func 61) #[] #[.pointer (some ⟨W.heap.size + 1, 0, none⟩)], .int .u32 (x : Int), undef, undef, undef, undef, undef, undef, undef, undef, undef, undef, undef], defers := [] }) 4 ?assign ?body ?done ?stop
  case assign =>
    intro l' pre x W' K he hK
    clear he
    simp only [encG]
    gi_wp2
    exact hK
  case body =>
    rintro l' pre x Wr ⟨hj, hout⟩ ⟨hx, hxn⟩ hsz
    have HOU := hide hout
    have HJR := hide hj
    have c2 : Wr.cell? ⟨b2, 0, none⟩ = some (.slice A1 l.length c1) := cell_of_row Wr b2 0 _ _ (0, 0) ((hout.block b2 (by have := HBL2.out; omega) hp2).trans HB2.out)
    have HW := hide (worth8_any A1 c1 l x (by omega) Wr (offs_out (offs_out (p := p) HOF.out (OutP.of_below HB5.out) hpo) hout hpo) hl hwl)
    have HWX : Hid (∀ W', OutP p Wr W' → W'.cell? ⟨W.heap.size, 0, none⟩ = some (.func (.yield L) #[] #[])) := hide (fun W' h => cell_of_row W' W.heap.size 0 _ _ (0, 0) (((hout.trans h).block W.heap.size (by omega) (fun e => by have := HP.out _ e; omega)).trans HBX.out))
    have HXE := hide (show x = pre.length ∧ x < 2 ^ n from ⟨hx, hxn⟩)
    clear hj hout hx hxn
    gi_wp2_with fail
    refine ⟨trivial, (callsIn_in HW.out).mono ?_⟩
    rintro e W4 ⟨rfl, hb4⟩
    have HO4 : Hid (OutP p Wr W4) := hide (OutP.of_below hb4)
    have HJ4 : Hid (J pre W4) := hide (ownFrom_later HJ.out HJR.out hb4)
    have c3 := HWX.out W4 HO4.out
    obtain ⟨fn, tmps, assign, body, hyy, hR⟩ := HY.out pre x W4 HJ4.out HXE.out ((OutP.of_below (p := p) HB5.out).trans (HOU.out.trans HO4.out)) 3
    simp only [encW] at hyy
    clear hb4
    generalize (worthL x l).1 = wv at *
    gi_wp2_with fail
    refine (roundIn_in hR).mono ?_
    rintro e W5 ⟨ho5, (⟨rfl, hJ5⟩ | ⟨rfl, hJx5⟩)⟩
    · have HJ6 := hide hJ5
      have HO6 := hide ho5
      clear hJ5 ho5 hyy
      gi_wp2
      exact ⟨HO4.out.trans HO6.out, HJ6.out, HOU.out.trans (HO4.out.trans HO6.out)⟩
    · have HJ6 := hide hJx5
      have HO6 := hide ho5
      clear hJx5 ho5 hyy
      gi_wp2
      exact ⟨HO4.out.trans HO6.out, rfl, HJ6.out⟩
  case done =>
    rintro D xs W' hD rfl ⟨hj, _⟩ hK
    have HJ6 := hide hj
    have HK := hide hK
    clear hj hK
    gi_wp2
    exact ⟨by simp, .inl ⟨D, _, rfl, run_takeDeferred HK.out, ⟨.tuple #[], results_none rfl _ _ _, ⟨_, rfl⟩, .inl ⟨_, rfl, OwnFrom.putObj HJ.out _ HJ6.out (by omega) HK.out rfl⟩⟩⟩⟩
  case stop =>
    rintro D c pre W' hD hpre ⟨rfl, hjx⟩ hK
    have HJ6 := hide hjx
    have HK := hide hK
    have HPR := hide hpre
    clear hjx hK hpre
    gi_wp2
    exact ⟨by simp, .inl ⟨D, _, rfl, run_takeDeferred HK.out, ⟨.tuple #[], results_none rfl _ _ _, ⟨_, rfl⟩, .inr ⟨_, HPR.out, OwnFrom.putObj HJX.out _ HJ6.out (by omega) HK.out rfl⟩⟩⟩⟩

set_option maxRecDepth 100000 in
set_option maxHeartbeats 2000000 in
/-- Of no number of goods that may be nothing comes. -/
theorem worths_bad {n : Int} (hn : n < 1 ∨ 10 < n) {l : List Offer} {b1 b2 : Nat} {p : Nat → Prop} {W : World} (hb1 : W.heap[b1]? = some (.cells #[.int .i64 n] 3 (0, 0))) :
    SeqO p Tryd.prog 45 #[.pointer (some ⟨b1, 0, none⟩), .pointer (some ⟨b2, 0, none⟩)] (encW l) (fun xs => xs = []) (fun _ => False) (fun _ _ => False) W := by
  intro L J Jx hJ hJx hY h0
  have HAL := hide (all_any n (W.alloc (.cells #[.func (.yield L) #[] #[]] 76)))
  unfold AllPost at HAL
  have c0 : (W.alloc (.cells #[.func (.yield L) #[] #[]] 76)).cell? ⟨b1, 0, none⟩ = some (.int .i64 n) := cell_of_row _ b1 0 _ _ (0, 0) ((Below.heap_alloc _ _ _ (lt_of_block hb1)).trans hb1)
  have HJ1 : Hid (J [] (W.alloc (.cells #[.func (.yield L) #[] #[]] 76))) := hide (ownFrom_later hJ h0 ((Below.refl _ _).alloc (Nat.le_refl _) _))
  clear hY hJ hJx hb1 h0
  have hcs : n < 1 ∨ (¬ n < 1 ∧ 10 < n) := by omega
  clear hn
  refine (callsIn_wide (n := 6)).1 ?_
  refine callsIn_of_wp_marks Tryd.func45 rfl trivial ?_ rfl
  simp only [Tryd.ntmps45, List.size_toArray, List.length_cons, List.length_nil, Nat.reduceAdd, Nat.reduceSub, Array.replicate_succ, Array.replicate_zero, List.push_toArray, List.append_toArray, List.nil_append, List.cons_append]
  generalize (allI n : Int) = al at *
  generalize allE n = ae at *
  rcases hcs with h1 | ⟨h1, h2⟩
  all_goals
    gi_wp2_with fail
    refine ⟨trivial, (callsIn_wide.2 HAL.out).mono ?_⟩
    rintro e _ ⟨rfl, rfl⟩
    gi_wp2_with fail
    exact ⟨.tuple #[], results_none rfl _ _ _, ⟨_, rfl⟩, .inl ⟨_, rfl, HJ1.out⟩⟩
end Go.Proofs.YtkiebjgpghajbaaDoor
