/- The walk of TicksMeanwhile. -/
import Derived.Test.YtdaicdaakegdmaaMwS
import Derived.Test.YtdaicdaakegdmaaDocOf
import Derived.Test.YtdaicdaakegdmaaAlS
import Derived.Test.YtdaicdaakegdmaaDsq
import Derived.Test.YtdaicdaakegdmaaSeqB
import Derived.Test.YtdaicdaakegdmaaInC
import Derived.Test.YtdaicdaakegdmaaKno
namespace Go.Proofs.Ytdaicdaakegdmaa
open Go.RowKit Go.Maps Go.Shelf
open Go.ChangeMaps Go.WideMaps

attribute [local go_sem] Oper.semAt_some

theorem two_new (w : World) (o1 o2 : Obj) : ((w.alloc o1).alloc o2).heap[w.heap.size]? = some o1 ∧ ((w.alloc o1).alloc o2).heap[w.heap.size + 1]? = some o2 ∧ Below w.heap.size w ((w.alloc o1).alloc o2) ∧ ((w.alloc o1).alloc o2).heap.size = w.heap.size + 2 := by
  refine ⟨(Below.heap_alloc _ _ _ (by simp)).trans (heap_alloc_new w o1), ?_, ((Below.refl _ _).alloc (Nat.le_refl _) _).alloc (by simp) _, by simp⟩
  have := heap_alloc_new (w.alloc o1) o2
  simpa using this
theorem ofS_len (now : Int) (list : List Du) : (ofS now list).length ≤ list.length := by
  have : ∀ (l : List Du) (S : List Du), (l.foldl (fun S d => setS now S d.2 d.1) S).length ≤ S.length + l.length := by
    intro l
    induction l with
    | nil => intro S; simp
    | cons d l ih =>
      intro S
      have h1 := ih (setS now S d.2 d.1)
      have h2 := setS_le now d.2 d.1 S
      simp only [List.foldl_cons, List.length_cons]
      omega
  simpa [ofS] using this list []
theorem SeqW.reads {B : Nat} {w : World} {A : Option Addr} {c : Nat} {S : List Du} (h : SeqW B w (.slice A S.length c) S) : Reads w w.heap.size 2 A S.length (flatD S) := by
  obtain ⟨A', c', e, _, _, hr⟩ := h.rd
  injection e with e1 e2 e3
  subst e1
  exact hr
theorem DocW.lower {w : World} {B B' q : Nat} {now : Int} {v : Value} {S : List Du} (h : DocW w B q now v S) (hB : B' ≤ B) : DocW w B' q now v S :=
  ⟨h.blk, ⟨h.row.rd, fun g hg => ⟨Nat.le_trans hB (h.row.at_ g hg).1, (h.row.at_ g hg).2⟩⟩, h.ap, Nat.le_trans hB h.base, h.len⟩
/-- What of the law stands at its start. -/
structure MwI (w : World) (A2 : Option Addr) (n2 c2 : Nat) (W : World) : Prop where
  b3 : W.heap[w.heap.size]? = some (.cells #[.slice A2 n2 c2] 22 (0, 0))
  b4 : W.heap[w.heap.size + 1]? = some (.cells #[.bool false] 4 (0, 0))
  bel : Below w.heap.size w W
theorem MwI.below {w W W' : World} {A2 : Option Addr} {n2 c2 : Nat} (h : MwI w A2 n2 c2 W) (hb : Below W.heap.size W W') : MwI w A2 n2 c2 W' :=
  ⟨(hb.block _ (lt_of_block h.b3)).trans h.b3, (hb.block _ (lt_of_block h.b4)).trans h.b4, h.bel.trans (hb.mono h.bel.size)⟩
theorem MwI.yes {w W : World} {A2 : Option Addr} {n2 c2 : Nat} (h : MwI w A2 n2 c2 W) : (W.setCell ⟨w.heap.size + 1, 0, none⟩ (.bool true)).cell? ⟨w.heap.size + 1, 0, none⟩ = some (.bool true) ∧ Below w.heap.size w (W.setCell ⟨w.heap.size + 1, 0, none⟩ (.bool true)) :=
  ⟨cell_of_row _ _ 0 _ _ (0, 0) (setCell_block h.b4 0 _), h.bel.setCell (by show w.heap.size ≤ w.heap.size + 1; omega) _⟩
/-- What the law holds ahead of a round. -/
def MwJ (w : World) (N : MwN) (pre : List Du) (W : World) : Prop := ∃ v l S1, MwX w N pre.length v l S1 W ∧ l.length ≤ 100 + pre.length
/-- The law's answer. -/
theorem mw_end {w W : World} {A2 : Option Addr} {n2 c2 : Nat} {tmps : Array Value} (h : MwI w A2 n2 c2 W) (ht : tmps[4]? = some (.pointer (some ⟨w.heap.size + 1, 0, none⟩))) :
    ∃ v, (results Try.f4 tmps).run Try.prog (W.setCell ⟨w.heap.size + 1, 0, none⟩ (.bool true)) = .ok v (W.setCell ⟨w.heap.size + 1, 0, none⟩ (.bool true)) ∧ ValB (.bool true) w (.returned v) (W.setCell ⟨w.heap.size + 1, 0, none⟩ (.bool true)) := by
  refine ⟨.bool true, ?_, rfl, h.yes.2⟩
  have h1 := h.yes.1
  simp [results, Try.results4, go_sem, ht, h1]

set_option maxRecDepth 100000 in
set_option maxHeartbeats 8000000 in
theorem meanwhile_any (A : Option Addr) (n c : Nat) (list : List Du) (A2 : Option Addr) (n2 c2 : Nat) (more : List Du) (w : World) (h : DuesW w A n list) (h2 : DuesW w A2 n2 more) :
    Calls Try.prog 4 #[.slice A n c, .slice A2 n2 c2] w (ValB (.bool true) w) := by
  obtain ⟨y3, y4, yb, yz⟩ := two_new w (.cells #[.slice A2 n2 c2] 22) (.cells #[.bool false] 4)
  have HI1 : Hid (MwI w A2 n2 c2 ((w.alloc (.cells #[.slice A2 n2 c2] 22)).alloc (.cells #[.bool false] 4))) := hide ⟨y3, y4, yb⟩
  have HKN := hide (fun W => known_any W)
  have HD := hide h
  have HD2 := hide h2
  clear y3 y4 yb h h2
  refine (callsIn_wide (n := 9)).1 ?_
  refine callsIn_of_wp_marks Try.func4 rfl trivial ?_ rfl
  simp only [Try.ntmps4, List.size_toArray, List.length_cons, List.length_nil, Nat.reduceAdd, Nat.reduceSub, Array.replicate_succ, Array.replicate_zero, List.push_toArray, List.append_toArray, List.nil_append, List.cons_append]
  by_cases hn : (n : Int) > 100
  · gi_wp2_with fail
    generalize (w.alloc (.cells #[.slice A2 n2 c2] 22)).alloc (.cells #[.bool false] 4) = w1 at *
    refine ⟨trivial, ?_⟩
    gi_at_call 7
    refine (callsIn_wide.2 (HKN.out w1)).mono ?_
    rintro _ w2 ⟨rfl, hb⟩
    have HI2 := hide (HI1.out.below hb)
    clear hb
    have c0 := cell_of_row w2 (w.heap.size + 1) 0 _ 4 (0, 0) HI2.out.b4
    have f0 := frozen_of_row w2 (w.heap.size + 1) 0 _ 4 HI2.out.b4
    gi_wp2_with fail
    exact mw_end HI2.out rfl
  have hn' : (n : Int) ≤ 100 := by omega
  have HN : Hid (n ≤ 100) := hide (by omega)
  gi_wp2_with fail
  generalize (w.alloc (.cells #[.slice A2 n2 c2] 22)).alloc (.cells #[.bool false] 4) = w1 at *
  have HZ1 := hide yz
  have HOF := hide (of_any 0 A n c list w1 (HD.out.below HI1.out.bel) (by omega))
  have HLEN : Hid ((ofS 0 list).length ≤ 100) := hide (by have := ofS_len 0 list; have := HD.out.len; omega)
  clear yz
  refine ⟨trivial, ?_⟩
  gi_at_call 13
  refine (callsIn_wide.2 HOF.out).mono ?_
  clear HOF
  rintro e w2 (⟨hcd, rfl, hb⟩ | ⟨hcd, p, rfl, hnew⟩)
  · have HI2 := hide (HI1.out.below hb)
    have HI3 : Hid (MwI w A2 n2 c2 (w2.alloc (.cells #[.pointer none] 24))) := hide (HI2.out.below ((Below.refl _ _).alloc (Nat.le_refl _) _))
    have HX3 := hide (heap_alloc_new w2 (.cells #[.pointer none] 24))
    have HDO := hide (docOf_any 0 A n c list (w2.alloc (.cells #[.pointer none] 24)) (HD.out.below HI3.out.bel) (by omega))
    have HC0 := hide hcd
    clear hb hcd
    gi_wp2_with fail
    generalize w2.alloc (.cells #[.pointer none] 24) = w3 at *
    generalize w2.heap.size = b5 at *
    refine ⟨trivial, ?_⟩
    gi_at_call 14
    refine (callsIn_wide.2 HDO.out).mono ?_
    rintro e w4 (⟨_, rfl, hb⟩ | ⟨hcd, _⟩)
    case inr => exact absurd hcd HC0.out
    have HI5 : Hid (MwI w A2 n2 c2 (w4.alloc (.cells #[.pointer none] 38))) := hide ((HI3.out.below hb).below ((Below.refl _ _).alloc (Nat.le_refl _) _))
    have HX5 := hide (heap_alloc_new w4 (.cells #[.pointer none] 38))
    have HY5 : Hid ((w4.alloc (.cells #[.pointer none] 38)).heap[b5]? = some (.cells #[.pointer none] 24 (0, 0))) := hide ((Below.heap_alloc _ _ _ (lt_of_block ((hb.block _ (lt_of_block HX3.out)).trans HX3.out))).trans ((hb.block _ (lt_of_block HX3.out)).trans HX3.out))
    clear hb
    have hcc : (ofC 0 list != ofC 0 list) = false := by simp
    have c5 := cell_of_row _ _ 0 _ _ (0, 0) HY5.out
    have c7 := cell_of_row _ _ 0 _ _ (0, 0) HX5.out
    simp only [List.getElem?_toArray, List.getElem?_cons_zero] at c5 c7
    generalize ofC 0 list = cc at *
    gi_wp2_with fail
    generalize w4.alloc (.cells #[.pointer none] 38) = w5 at *
    generalize w4.heap.size = b7 at *
    refine ⟨trivial, ?_⟩
    gi_at_call 7
    refine (callsIn_wide.2 (HKN.out w5)).mono ?_
    rintro _ w6 ⟨rfl, hb⟩
    have HI6 := hide (HI5.out.below hb)
    clear hb c5 c7
    have c0 := cell_of_row w6 (w.heap.size + 1) 0 _ 4 (0, 0) HI6.out.b4
    have f0 := frozen_of_row w6 (w.heap.size + 1) 0 _ 4 HI6.out.b4
    gi_wp2_with fail
    exact mw_end HI6.out rfl
  obtain ⟨r, x, m, v, l, hcal, hrel, hb⟩ := hnew
  have HC0 := hide hcd
  generalize HS : ofS 0 list = S at *
  have HI2 := hide (HI1.out.below hb)
  have HCA2 : Hid (Cal w2 w.heap.size p r x m v 0 l) := hide (CalF.lower hcal HI1.out.bel.size)
  have HRE := hide hrel
  have HB3 : Hid (Below w2.heap.size w2 (w2.alloc (.cells #[.pointer (some ⟨p, 0, none⟩)] 24))) := hide ((Below.refl _ _).alloc (Nat.le_refl _) _)
  have HI3 := hide (HI2.out.below HB3.out)
  have HX3 := hide (heap_alloc_new w2 (.cells #[.pointer (some ⟨p, 0, none⟩)] 24))
  have HCA3 := hide (CalF.below HCA2.out HB3.out)
  have HDO := hide (docOf_any 0 A n c list (w2.alloc (.cells #[.pointer (some ⟨p, 0, none⟩)] 24)) (HD.out.below HI3.out.bel) (by omega))
  rw [show DocOfP 0 list = DocOfP 0 list from rfl] at HDO
  have HLT : Hid (∀ k, (Foot p r m v k ∨ k = x) → k < w2.heap.size) := hide (CalF.lt HCA2.out)
  have HS5 : Hid (w.heap.size + 2 ≤ w2.heap.size) := hide (by have := hb.size; have := HZ1.out; omega)
  clear hcd hcal hrel hb
  gi_wp2_with fail
  have HZ3 : Hid ((w2.alloc (.cells #[.pointer (some ⟨p, 0, none⟩)] 24)).heap.size = w2.heap.size + 1) := hide (by simp)
  generalize w2.alloc (.cells #[.pointer (some ⟨p, 0, none⟩)] 24) = w3 at *
  generalize w2.heap.size = b5 at *
  refine ⟨trivial, ?_⟩
  gi_at_call 14
  refine (callsIn_wide.2 HDO.out).mono ?_
  rintro e w4 (⟨hcd, _⟩ | ⟨_, q, vd, rfl, hd, hb⟩)
  · exact absurd HC0.out hcd
  rw [HS] at hd
  have HLD : Hid (∀ g, (g = q ∨ vd.ownBlock = some g) → w3.heap.size ≤ g ∧ g < w4.heap.size) := hide (fun g hg => by
    rcases hg with rfl | hg
    · exact ⟨hd.base, lt_of_block hd.blk⟩
    · exact hd.row.at_ g hg)
  have HD4 : Hid (DocW w4 w.heap.size q 0 vd S) := hide (hd.lower HI3.out.bel.size)
  obtain ⟨AD, cD, hvd, _, _, _⟩ := hd.row.rd
  have HVD := hide hvd
  clear hvd
  have HI4 := hide (HI3.out.below hb)
  have HCA4 := hide (CalF.below HCA3.out hb)
  have HX4 : Hid (w4.heap[b5]? = some (.cells #[.pointer (some ⟨p, 0, none⟩)] 24 (0, 0))) := hide ((hb.block _ (lt_of_block HX3.out)).trans HX3.out)
  have HZ4 : Hid (w3.heap.size ≤ w4.heap.size) := hide hb.size
  have HB5 : Hid (Below w4.heap.size w4 (w4.alloc (.cells #[.pointer (some ⟨q, 0, none⟩)] 38))) := hide ((Below.refl _ _).alloc (Nat.le_refl _) _)
  have HX5 := hide (heap_alloc_new w4 (.cells #[.pointer (some ⟨q, 0, none⟩)] 38))
  have HY5 := hide ((HB5.out.block _ (lt_of_block HX4.out)).trans HX4.out)
  have HI5 := hide (HI4.out.below HB5.out)
  have HCA5 := hide (CalF.below HCA4.out HB5.out)
  have HD5 := hide (HD4.out.below HB5.out)
  have HZ5 : Hid ((w4.alloc (.cells #[.pointer (some ⟨q, 0, none⟩)] 38)).heap.size = w4.heap.size + 1) := hide (by simp)
  have c5 := cell_of_row _ _ 0 _ _ (0, 0) HY5.out
  have c7 := cell_of_row _ _ 0 _ _ (0, 0) HX5.out
  simp only [List.getElem?_toArray, List.getElem?_cons_zero] at c5 c7
  have hfe : ∀ (W : World) (b : Nat), (binOp .eql 42 (.func (.func 37) #[] #[.pointer (some ⟨b, 0, none⟩)]) .nilFunc).run Try.prog W = .ok (.bool false) W := fun _ _ => rfl
  have HAL := hide (all_any HCA5.out HRE.out)
  clear hd hb
  gi_wp2_with fail
  generalize w4.alloc (.cells #[.pointer (some ⟨q, 0, none⟩)] 38) = w5 at *
  generalize w4.heap.size = b7 at *
  refine ⟨trivial, ?_⟩
  gi_at_call 15
  refine (callsIn_wide.2 HAL.out).mono ?_
  rintro e w6 ⟨bA, AL, cL, rfl, hbA, hcA, hownA, hb6⟩
  clear HAL
  have HB7 : Hid (Below w6.heap.size w6 (w6.alloc (.cells #[.int .i64 0] 3))) := hide ((Below.refl _ _).alloc (Nat.le_refl _) _)
  have HXA : Hid ((w6.alloc (.cells #[.int .i64 0] 3)).heap[bA]? = some (.cells #[.slice AL S.length cL] 22 (0, 0))) := hide ((HB7.out.block _ (lt_of_block hcA)).trans hcA)
  have HRA : Hid (Reads (w6.alloc (.cells #[.int .i64 0] 3)) w6.heap.size 2 AL S.length (flatD S)) := hide ((Reads.of_own hownA).below HB7.out)
  have HLA : Hid (∀ g, (Value.slice AL S.length cL).ownBlock = some g → w5.heap.size ≤ g ∧ g < w6.heap.size) := hide (fun g hg => hownA.lt g hg)
  obtain ⟨_, _, hAL, _, hAL2⟩ := own_form2 hownA
  injection hAL with hAL _ _
  subst hAL
  have HFA := hide hAL2
  have HX7 := hide (heap_alloc_new w6 (.cells #[.int .i64 0] 3))
  have HP7 : Hid (MwX w ⟨p, r, x, m, q, b5, b7, w6.heap.size, v, vd, A2, n2, c2, S⟩ 0 v l S (w6.alloc (.cells #[.int .i64 0] 3))) := hide (by
    have hI := (HI5.out.below hb6).below HB7.out
    refine ⟨hI.b3, hI.b4, (HB7.out.block _ (lt_of_block ((hb6.block _ (lt_of_block HY5.out)).trans HY5.out))).trans ((hb6.block _ (lt_of_block HY5.out)).trans HY5.out), (HB7.out.block _ (lt_of_block ((hb6.block _ (lt_of_block HX5.out)).trans HX5.out))).trans ((hb6.block _ (lt_of_block HX5.out)).trans HX5.out), HX7.out, ⟨CalF.below (CalF.below HCA5.out hb6) HB7.out, HRE.out, (HD5.out.below hb6).below HB7.out, fun k hk hf => ?_, hI.bel⟩, fun g hg => .inl hg⟩
    have h1 := (HLD.out k hk).1
    have h2 := HLT.out k hf
    have h3 := HZ3.out
    omega)
  have HF : Hid (MwF w ⟨p, r, x, m, q, b5, b7, w6.heap.size, v, vd, A2, n2, c2, S⟩) := hide (by
    have z3 := HZ3.out
    have z4 := HZ4.out
    have z5 := HZ5.out
    have z6 := hb6.size
    have t := HLT.out
    have t2 := HLD.out
    have s5 := HS5.out
    refine ⟨by show w.heap.size + 1 < w6.heap.size; omega, by show b5 < w6.heap.size; omega, by show b7 < w6.heap.size; omega, ?_, ?_, ?_, ?_, ?_, fun g hg => ?_, fun g hg => ?_, ?_, ?_⟩
    · have := t p (.inl (.inl rfl)); show p < w6.heap.size; omega
    · have := t r (.inl (.inr (.inl rfl))); show r < w6.heap.size; omega
    · have := t x (.inr rfl); show x < w6.heap.size; omega
    · have := t m (.inl (.inr (.inr (.inl rfl)))); show m < w6.heap.size; omega
    · have := t2 q (.inl rfl); show q < w6.heap.size; omega
    · have := t g (.inl (.inr (.inr (.inr hg)))); show g < w6.heap.size; omega
    · have := t2 g (.inr hg); show g < w6.heap.size; omega
    · show w.heap.size ≤ b5
      omega
    · show w.heap.size ≤ b7
      omega)
  have HBA : Hid (bA < w6.heap.size) := hide (lt_of_block hcA)
  have HZ7 : Hid ((w6.alloc (.cells #[.int .i64 0] 3)).heap.size = w6.heap.size + 1) := hide (by simp)
  have HSM := hide (And.intro hbA (And.intro HZ3.out (And.intro HZ4.out HZ5.out)))
  clear hAL2 hcA hownA hb6 hbA c5 c7
  gi_wp2_with fail
  generalize w6.alloc (.cells #[.int .i64 0] 3) = w7 at *
  generalize hb10 : w6.heap.size = b10 at *
  obtain ⟨N, hN⟩ : ∃ N : MwN, N = ⟨p, r, x, m, q, b5, b7, b10, v, vd, A2, n2, c2, S⟩ := ⟨_, rfl⟩
  rw [← hN] at HP7 HF
  have HNB : Hid (N.b10 = b10) := hide (by rw [hN])
  have HSZ : Hid (S.length ≤ 100) := hide HLEN.out
  have HL0 : Hid (l.length ≤ 100) := hide (by have := HRE.out.length; have := HLEN.out; omega)
  have HOKS : Hid (∀ d ∈ S, (0 ≤ d.1 ∧ d.1 ≤ 1099511627776) ∧ 0 ≤ d.2 ∧ d.2 ≤ 9223372036854775807) := hide (fun d hd => HCA5.out.ok d (HRE.out.perm.mem_iff.2 hd))
  have HHP : Hid (∀ g, (MwP N g ∨ g = w7.heap.size + 1) → AL.map Addr.block ≠ some g) := hide (fun g hg e => by
    rcases HFA.out with ⟨rfl, _, _⟩ | ⟨bb, oo, rfl⟩
    · cases e
    · injection e with e
      have e' : bb = g := e
      subst e'
      have h1 := HLA.out bb rfl
      have h2 := HLT.out
      have h3 := HSM.out
      have h4 := HZ7.out
      rw [hN] at hg
      rcases hg with (hg | hg | hg | hg | hg | hg) | hg
      · have := h2 p (.inl (.inl rfl)); have hg : bb = p := hg; omega
      · have := h2 r (.inl (.inr (.inl rfl))); have hg : bb = r := hg; omega
      · have := h2 m (.inl (.inr (.inr (.inl rfl)))); have hg : bb = m := hg; omega
      · have := h2 bb (.inl (.inr (.inr (.inr hg)))); omega
      · have hg : bb = b10 := hg; omega
      · have hg : b10 + 3 ≤ bb := hg; omega
      · omega)
  clear hb10 HCA5 HCA4 HCA3 HCA2 HD4 HD5 HX3 HX4 HX5 HY5 HI1 HI2 HI3 HI4 HI5 HB3 HB5
  have HI7 : Hid (w.heap.size ≤ w7.heap.size) := hide HP7.out.pair.bel.size
  refine wpIn_rangeSeqB (α := Du) (encs := encD) (gf := 37) (lb := #[.pointer (some ⟨bA, 0, none⟩)]) rfl (enters_of Try.func37 (by kernel_rfl) rfl) (MwP N) (by rw [HZ7.out, ← HNB.out]; exact (MwP.at_ HF.out).1) (by rw [HZ7.out, ← HNB.out]; exact (MwP.at_ HF.out).2)
    (fun W2 hb hz => dues_seq ((hb.block _ (lt_of_block HXA.out)).trans HXA.out) (HRA.out.below (hb.mono (by have := HZ7.out; omega))) (by have := HZ7.out; omega) (by have := HSZ.out; omega) HHP.out) (fun _ => rfl)
    (MwJ w N) (fun _ _ _ => False)
    (fun s X Y row hs hg hr => by
      obtain ⟨v, l, S1, hx, hl⟩ := hs
      exact ⟨v, l, S1, hx.grown HF.out hg (fun r e => by have := hr r e; rw [HZ7.out] at this; rw [HNB.out]; exact this), hl⟩)
    (fun _ _ _ _ _ h _ _ => h) ⟨v, l, S, HP7.out, by have := HL0.out; simpa using this⟩
    (fun x W => { tmps := #[.slice A n c, .slice A2 n2 c2, undef, .pointer (some ⟨w.heap.size, 0, none⟩), .pointer (some ⟨w.heap.size + 1, 0, none⟩), .pointer (some ⟨b5, 0, none⟩), .int .i64 0, .pointer (some ⟨b7, 0, none⟩), .int .i64 0, .func (.func 37) #[] #[.pointer (some ⟨bA, 0, none⟩)], .pointer (some ⟨b10, 0, none⟩), .pointer (some ⟨W.heap.size, 0, none⟩), .slice A n c, .int .i64 (n : Int), .bool false, undef, .tuple #[.pointer (some ⟨p, 0, none⟩), .int .i64 0], .slice A n c, .tuple #[.pointer (some ⟨p, 0, none⟩), .int .i64 0], .pointer (some ⟨p, 0, none⟩), .int .i64 0, .tuple #[.pointer (some ⟨q, 0, none⟩), .int .i64 0], .slice A n c, .tuple #[.pointer (some ⟨q, 0, none⟩), .int .i64 0], .pointer (some ⟨q, 0, none⟩), .int .i64 0, .int .i64 0, .int .i64 0, .bool false, .bool false, .pointer (some ⟨p, 0, none⟩), .bool false, .pointer (some ⟨q, 0, none⟩), .bool false, .bool false, .bool false, .pointer (some ⟨p, 0, none⟩), .bool false, undef, .pointer (some ⟨p, 0, none⟩), .func (.func 37) #[] #[.pointer (some ⟨bA, 0, none⟩)], .func (.func 37) #[] #[.pointer (some ⟨bA, 0, none⟩)], .bool false, .func (.func 37) #[] #[.pointer (some ⟨bA, 0, none⟩)], .agg #[.int .i64 x.1, .int .i64 x.2], undef, undef, undef, undef, undef, undef, undef, undef, undef, undef, undef, undef, undef, undef, undef, undef, undef, undef, undef, undef, undef, undef, undef, undef, undef, undef, undef, undef, undef, undef, undef, undef, undef, undef, undef, undef, undef, undef, undef, undef, undef, undef, undef, undef, undef, undef, undef, undef, undef, undef], defers := [] })
    (fun x W => W.alloc (.cells #[.int .i64 x.1, .int .i64 x.2] 30)) (fun x W => (Below.refl _ _).alloc (Nat.le_refl _) _) 9 ?assign ?body ?done ?stop
  case stop =>
    intro _ _ _ _ _ _ h _
    exact h.elim
  case assign =>
    intro l' pre d W' K he hK
    clear he
    obtain ⟨d1, d2⟩ := d
    simp only [encD]
    gi_wp2
    exact hK
  case body =>
    rintro l' pre d W0 Wr ⟨Wb, ⟨v1, l1, S1, hX0, hl1⟩, hzb, hbb⟩ ⟨hpre, hlt, hx⟩ hsz hzA hnew
    have HNE := hide hN
    clear hN
    obtain ⟨k, hk⟩ : ∃ k, k = pre.length := ⟨_, rfl⟩
    rw [← hk] at hX0 hlt hx hl1
    have HKP : Hid ((pre ++ [d]).length = k + 1) := hide (by simp [hk])
    have hbn : Wr.heap[W0.heap.size]? = some (.cells #[.int .i64 d.1, .int .i64 d.2] 30 (0, 0)) := (hnew _ (Nat.le_refl _)).trans (heap_alloc_new W0 _)
    have HBN := hide hbn
    have HFL : Hid (∀ i, Foot p r m v1 i → i < W0.heap.size) := hide (fun i hi => by
      rw [HNE.out] at hX0
      have := CalF.lt hX0.pair.ca i (.inl hi)
      omega)
    have HX := hide (hX0.below hbb)
    have HSZW : Hid (N.b10 + 3 ≤ W0.heap.size) := hide (by have := HZ7.out; have := HNB.out; omega)
    have HL1 := hide hl1
    have HDM : Hid ((0 ≤ d.1 ∧ d.1 ≤ 1099511627776) ∧ 0 ≤ d.2 ∧ d.2 ≤ 9223372036854775807) := hide (HOKS.out d (by rw [hx]; exact gD_mem hlt))
    have HGD := hide hx
    have HRW : Hid (W0.heap.size + 1 ≤ Wr.heap.size) := hide (by rw [hzA]; simp)
    generalize W0.heap.size = b11 at *
    clear hnew hzA hX0 hl1 hk hpre hbb hzb hsz hbn
    have hX := HX.out
    rw [HNE.out] at hX
    obtain ⟨c3, c4, c5, c7, c10, f10, cq⟩ := hX.cells
    simp only at c3 c4 c5 c7 c10 f10 cq
    have hrow := hX.pair.da.row
    simp only at hrow
    rw [HVD.out] at hrow cq
    have hSR := SeqW.reads hrow
    obtain ⟨gS, oS, rfl, hgS, hcS⟩ := hSR.2 (by omega)
    have d0 : Wr.cell? ⟨gS, oS + k * 2, none⟩ = some (.int .i64 (gD S k).1) := hcS _ _ (flatD_at S k hlt).1
    have d1 : Wr.cell? ⟨gS, oS + k * 2 + 1, none⟩ = some (.int .i64 (gD S k).2) := hcS _ _ (flatD_at S k hlt).2
    rw [← HGD.out] at d0 d1
    have e0 := cell_of_row Wr b11 0 _ _ (0, 0) HBN.out
    have e1 := cell_of_row Wr b11 1 _ _ (0, 0) HBN.out
    simp only [List.getElem?_toArray, List.getElem?_cons_zero, List.getElem?_cons_succ] at e0 e1
    have hkl1 : ¬ S.length ≤ k := by omega
    have hkl2 : decide (S.length ≤ k) = false := by simpa using hkl1
    have hkl3 : (k : Int) < (S.length : Int) := by omega
    have hkl4 : ¬ ((S.length : Int) ≤ (k : Int)) := by omega
    have hk0 : (0 : Int) ≤ (k : Int) := by omega
    have hk100 : (k : Int) ≤ 1000000 := by have := HSZ.out; omega
    obtain ⟨x1, x2⟩ := d
    simp only at d0 d1 e0 e1
    clear hX hcS hSR hrow hx hgS
    gi_wp2_with fail
    trace_state
    refine wpIn_region_quietG (by kernel_rfl) (by kernel_rfl) (by kernel_rfl) ?_
    repeat (go_big_quiet_step (fail))
    refine wpQuiet_nil ?_
    rintro _ ⟨nq, rfl⟩
    have HX2 := hide (HX.out.below (below_drewN (Below.refl _ _) nq))
    have HBN2 : Hid ((Wr.drewN nq).heap[b11]? = some (.cells #[.int .i64 x1, .int .i64 x2] 30 (0, 0))) := hide HBN.out
    have HO2 : Hid (OutP (MwP N) Wr (Wr.drewN nq)) := hide ((OutP.refl _ _).drewN nq)
    have HZ2 : Hid (b11 + 1 ≤ (Wr.drewN nq).heap.size) := hide HRW.out
    clear c3 c4 c5 c7 c10 f10 cq d0 d1 e0 e1 HX HBN HRW
    generalize Wr.drewN nq = W2 at *
    have hX := HX2.out
    rw [HNE.out] at hX
    obtain ⟨c3, c4, c5, c7, c10, f10, cq⟩ := hX.cells
    simp only at c3 c4 c5 c7 c10 f10 cq
    clear hX cq
    by_cases hk2 : k < n2
    · have hk3 : (k : Int) < (n2 : Int) := by omega
      obtain ⟨gM, oM, rfl, hgM, hm0, hm1⟩ := HD2.out.at_ k hk2
      have hmw := HD2.out.wf (gD more k) (gD_mem (by rw [HD2.out.len]; exact hk2))
      have m0 := (HX2.out.pair.bel.cell (p := ⟨gM, oM + k * 2, none⟩) hgM).trans hm0
      have m1 := (HX2.out.pair.bel.cell (p := ⟨gM, oM + k * 2 + 1, none⟩) hgM).trans hm1
      have HGM : Hid (∀ W, Below w.heap.size w W → W.cell? ⟨gM, oM + k * 2, none⟩ = some (.int .i64 (gD more k).1) ∧ W.cell? ⟨gM, oM + k * 2 + 1, none⟩ = some (.int .i64 (gD more k).2)) := hide (fun W hW => ⟨(hW.cell (p := ⟨gM, oM + k * 2, none⟩) hgM).trans hm0, (hW.cell (p := ⟨gM, oM + k * 2 + 1, none⟩) hgM).trans hm1⟩)
      clear hm0 hm1 hgM
      generalize gD more k = md at *
      obtain ⟨y1, y2⟩ := md
      simp only at m0 m1 HGM hmw
      have HXD := hide (HX2.out.below ((Below.refl _ W2).drew))
      have HSE := hide (set_any HXD.out.pair.ca HXD.out.pair.ra HXD.out.pair.bel.size y2 y1 hmw.2 (by have := HL1.out; have := HSZ.out; omega))
      have HSL := hide (setS_len HXD.out.pair.ra 0 y2 y1)
      have HLR := hide HXD.out.pair.ra.length
      obtain ⟨P, hP⟩ : ∃ P : World → Prop, P = fun W => W.cell? ⟨b5, 0, none⟩ = some (.pointer (some ⟨p, 0, none⟩)) ∧ W.cell? ⟨w.heap.size, 0, none⟩ = some (.slice (some ⟨gM, oM, none⟩) n2 c2) ∧ W.cell? ⟨b10, 0, none⟩ = some (.int .i64 (k : Int)) ∧ W.cell? ⟨gM, oM + k * 2, none⟩ = some (.int .i64 y1) ∧ W.cell? ⟨gM, oM + k * 2 + 1, none⟩ = some (.int .i64 y2) := ⟨_, rfl⟩
      have hP0 : P W2.drew := by rw [hP]; exact ⟨c5, c3, c10, m0, m1⟩
      have HPE := hide hP
      rw [HNE.out] at HSE
      simp only at HSE
      clear hmw
      gi_wp2_with fail
      refine wpIn_region_UC 12 P [9] (by kernel_rfl) (fun f hf => by simp only [List.mem_singleton] at hf; subst hf; exact enters_of Try.func9 (by kernel_rfl) rfl) (by kernel_rfl) hP0 (fun hHeld => ?_)
      refine AnyU.take (i := 0) (v := ?v1) rfl (by kernel_rfl) (by kernel_rfl) (by kernel_rfl) (by kernel_rfl) (fun _ _ _ h => h) (Or.inl ⟨by rfl, ?hy1⟩) hHeld ?r1
      case hy1 => (intro w hSw; (try dsimp only at hSw); rw [hP] at hSw; obtain ⟨z0, z1, z2, z3, z4⟩ := hSw; go_simp <;> with_reducible rfl)
      simp only [Act.put, List.setIfInBounds_toArray, List.set_cons_zero, List.set_cons_succ]
      refine AnyU.take (i := 1) (v := ?v2) rfl (by kernel_rfl) (by kernel_rfl) (by kernel_rfl) (by kernel_rfl) (fun _ _ _ h => h) (Or.inl ⟨by rfl, ?hy2⟩) hHeld ?r2
      case hy2 => (intro w hSw; (try dsimp only at hSw); rw [hP] at hSw; obtain ⟨z0, z1, z2, z3, z4⟩ := hSw; go_simp <;> with_reducible rfl)
      simp only [Act.put, List.setIfInBounds_toArray, List.set_cons_zero, List.set_cons_succ]
      refine AnyU.take (i := 2) (v := ?v3) rfl (by kernel_rfl) (by kernel_rfl) (by kernel_rfl) (by kernel_rfl) (fun _ _ _ h => h) (Or.inl ⟨by rfl, ?hy3⟩) hHeld ?r3
      case hy3 => (intro w hSw; (try dsimp only at hSw); rw [hP] at hSw; obtain ⟨z0, z1, z2, z3, z4⟩ := hSw; go_simp <;> with_reducible rfl)
      simp only [Act.put, List.setIfInBounds_toArray, List.set_cons_zero, List.set_cons_succ]
      refine AnyU.take (i := 3) (v := ?v4) rfl (by kernel_rfl) (by kernel_rfl) (by kernel_rfl) (by kernel_rfl) (fun _ _ _ h => h) (Or.inl ⟨by rfl, ?hy4⟩) hHeld ?r4
      case hy4 => (intro w hSw; (try dsimp only at hSw); rw [hP] at hSw; obtain ⟨z0, z1, z2, z3, z4⟩ := hSw; go_simp <;> with_reducible rfl)
      simp only [Act.put, List.setIfInBounds_toArray, List.set_cons_zero, List.set_cons_succ]
      refine AnyU.take (i := 4) (v := ?v5) rfl (by kernel_rfl) (by kernel_rfl) (by kernel_rfl) (by kernel_rfl) (fun _ _ _ h => h) (Or.inl ⟨by rfl, ?hy5⟩) hHeld ?r5
      case hy5 => (intro w hSw; (try dsimp only at hSw); rw [hP] at hSw; obtain ⟨z0, z1, z2, z3, z4⟩ := hSw; go_simp <;> with_reducible rfl)
      simp only [Act.put, List.setIfInBounds_toArray, List.set_cons_zero, List.set_cons_succ]
      refine AnyU.take (i := 5) (v := ?v6) rfl (by kernel_rfl) (by kernel_rfl) (by kernel_rfl) (by kernel_rfl) (fun _ _ _ h => h) (Or.inl ⟨by rfl, ?hy6⟩) hHeld ?r6
      case hy6 => (intro w hSw; (try dsimp only at hSw); rw [hP] at hSw; obtain ⟨z0, z1, z2, z3, z4⟩ := hSw; go_simp <;> with_reducible rfl)
      simp only [Act.put, List.setIfInBounds_toArray, List.set_cons_zero, List.set_cons_succ]
      refine AnyU.take (i := 6) (v := ?v7) rfl (by kernel_rfl) (by kernel_rfl) (by kernel_rfl) (by kernel_rfl) (fun _ _ _ h => h) (Or.inl ⟨by rfl, ?hy7⟩) hHeld ?r7
      case hy7 => (intro w hSw; (try dsimp only at hSw); rw [hP] at hSw; obtain ⟨z0, z1, z2, z3, z4⟩ := hSw; go_simp <;> with_reducible rfl)
      simp only [Act.put, List.setIfInBounds_toArray, List.set_cons_zero, List.set_cons_succ]
      refine AnyU.take (i := 7) (v := ?v8) rfl (by kernel_rfl) (by kernel_rfl) (by kernel_rfl) (by kernel_rfl) (fun _ _ _ h => h) (Or.inl ⟨by rfl, ?hy8⟩) hHeld ?r8
      case hy8 => (intro w hSw; (try dsimp only at hSw); rw [hP] at hSw; obtain ⟨z0, z1, z2, z3, z4⟩ := hSw; go_simp <;> with_reducible rfl)
      simp only [Act.put, List.setIfInBounds_toArray, List.set_cons_zero, List.set_cons_succ]
      refine AnyU.take (i := 8) (v := ?v9) rfl (by kernel_rfl) (by kernel_rfl) (by kernel_rfl) (by kernel_rfl) (fun _ _ _ h => h) (Or.inl ⟨by rfl, ?hy9⟩) hHeld ?r9
      case hy9 => (intro w hSw; (try dsimp only at hSw); rw [hP] at hSw; obtain ⟨z0, z1, z2, z3, z4⟩ := hSw; go_simp <;> with_reducible rfl)
      simp only [Act.put, List.setIfInBounds_toArray, List.set_cons_zero, List.set_cons_succ]
      refine AnyU.take (i := 9) (v := ?v10) rfl (by kernel_rfl) (by kernel_rfl) (by kernel_rfl) (by kernel_rfl) (fun _ _ _ h => h) (Or.inl ⟨by rfl, ?hy10⟩) hHeld ?r10
      case hy10 => (intro w hSw; (try dsimp only at hSw); rw [hP] at hSw; obtain ⟨z0, z1, z2, z3, z4⟩ := hSw; go_simp <;> with_reducible rfl)
      simp only [Act.put, List.setIfInBounds_toArray, List.set_cons_zero, List.set_cons_succ]
      refine AnyU.take (i := 10) (v := ?v11) rfl (by kernel_rfl) (by kernel_rfl) (by kernel_rfl) (by kernel_rfl) (fun _ _ _ h => h) (Or.inl ⟨by rfl, ?hy11⟩) hHeld ?r11
      case hy11 => (intro w hSw; (try dsimp only at hSw); rw [hP] at hSw; obtain ⟨z0, z1, z2, z3, z4⟩ := hSw; go_simp <;> with_reducible rfl)
      simp only [Act.put, List.setIfInBounds_toArray, List.set_cons_zero, List.set_cons_succ]
      clear hHeld
      refine AnyU.next (js := [11]) (by kernel_rfl) (by simp) (NextU.cons rfl (fun K hK => ?_) NextU.nil)
      go_simp
      refine (HSE.out).mono ?_
      rintro _ W3 ⟨rfl, v3, l3, hc3, hr3, ho3, hg3⟩
      have HX3 : Hid (MwX w N k v3 l3 (setS 0 S1 y2 y1) W3) := hide (by
        have h1 := HXD.out
        have hz := HSZW.out
        have hz2 := HZ2.out
        have hz3 : W2.drew.heap.size = W2.heap.size := rfl
        rw [HNE.out] at h1 hz ⊢
        exact h1.turn (by omega) hc3 hr3 ho3 hg3)
      have HO3 : Hid (OutP (MwP N) Wr W3) := hide (by
        refine HO2.out.trans ((OutP.of_below ((Below.refl _ W2).drew)).trans ?_)
        have h1 := HXD.out
        rw [HNE.out] at h1 ⊢
        exact h1.out ho3)
      have HBN3 : Hid (W3.heap[b11]? = some (.cells #[.int .i64 x1, .int .i64 x2] 30 (0, 0))) := hide ((ho3.block b11 (lt_of_block HBN2.out) (fun h => by have := HFL.out b11 h; omega)).trans HBN2.out)
      have HZ3 : Hid (b11 + 1 ≤ W3.heap.size) := hide (Nat.le_trans HZ2.out ho3.size)
      have HL3 : Hid (l3.length ≤ 101 + k) := hide (by have := hr3.length; have := HSL.out; have := HLR.out; have := HL1.out; omega)
      have hX := HX3.out
      have HM3 := HGM.out W3 HX3.out.pair.bel
      rw [HNE.out] at hX
      obtain ⟨a3, _, a5, _, a10, _, _⟩ := hX.cells
      simp only at a3 a5 a10
      have HP3 : Hid (P W3) := hide (by rw [HPE.out]; exact ⟨a5, a3, a10, HM3.1, HM3.2⟩)
      have HDR := hide (drop_any hX.pair.ca hX.pair.ra x2 (by have := HDM.out; (try dsimp only at this); omega))
      simp only at HDR
      clear hX hc3 hr3 ho3 hg3 HM3 a3 a10 c3 c4 c5 c7 c10 f10 m0 m1 hP hP0
      have g1 := cell_of_row W3 b11 1 _ _ (0, 0) HBN3.out
      have g0 := cell_of_row W3 b11 0 _ _ (0, 0) HBN3.out
      simp only [List.getElem?_toArray, List.getElem?_cons_zero, List.getElem?_cons_succ] at g0 g1
      refine hK.out _ _ (fun _ => HP3.out) (fun hHeld => ?_)
      try simp only [Act.put, List.setIfInBounds_toArray, List.set_cons_zero, List.set_cons_succ]
      clear hK K hHeld
      refine AnyU.over (by kernel_rfl) ?_ _
      refine noOut_normal ?_
      gi_wp2_with fail
      refine ⟨trivial, ?_⟩
      gi_at_call 16
      refine (callsIn_in HDR.out).mono ?_
      rintro _ W4 ⟨rfl, v4, l4, hc4, hr4, ho4, hg4⟩
      have HX4 : Hid (MwX w N k v4 l4 (woD (setS 0 S1 y2 y1) x2) W4) := hide (by
        have h1 := HX3.out
        have hz := HSZW.out
        have hz2 := HZ3.out
        rw [HNE.out] at h1 hz ⊢
        exact h1.turn (by omega) hc4 hr4 ho4 hg4)
      have HO4 : Hid (OutP (MwP N) Wr W4) := hide (by
        refine HO3.out.trans ?_
        have h1 := HX3.out
        rw [HNE.out] at h1 ⊢
        exact h1.out ho4)
      have HL4 : Hid (l4.length ≤ 100 + (k + 1)) := hide (by have := hr4.length; have := woD_len (setS 0 S1 y2 y1) x2; have := HX3.out.pair.ra.length; have := HL3.out; omega)
      have HFI : Hid (∀ a, bodyO (MwP N) (MwJ w N) (fun _ _ _ => False) (pre ++ [(x1, x2)]) Wr .normal a (W4.setCell ⟨b10, 0, none⟩ (.int .i64 ((k : Int) + 1)))) := hide (fun a => by
        have h1 := HX4.out.count HF.out
        have h2 : MwP N b10 := by rw [HNE.out]; exact .inr (.inr (.inr (.inr (.inl rfl))))
        rw [HNB.out] at h1
        refine ⟨HO4.out.set ⟨b10, 0, none⟩ h2 _, v4, l4, woD (setS 0 S1 y2 y1) x2, ?_, ?_⟩
        · rw [HKP.out]; exact h1
        · rw [HKP.out]; exact HL4.out)
      have hX := HX4.out
      rw [HNE.out] at hX
      obtain ⟨_, _, _, _, a10, f10, _⟩ := hX.cells
      simp only at a10 f10
      clear hX hc4 hr4 ho4 hg4 a5 g0 g1
      gi_wp2_with fail
      exact HFI.out _
    · have hk3 : ¬ (k : Int) < (n2 : Int) := by omega
      have HFI : Hid (∀ a, bodyO (MwP N) (MwJ w N) (fun _ _ _ => False) (pre ++ [(x1, x2)]) Wr .normal a (W2.setCell ⟨b10, 0, none⟩ (.int .i64 ((k : Int) + 1)))) := hide (fun a => by
        have h1 := HX2.out.count HF.out
        have h2 : MwP N b10 := by rw [HNE.out]; exact .inr (.inr (.inr (.inr (.inl rfl))))
        rw [HNB.out] at h1
        refine ⟨HO2.out.set ⟨b10, 0, none⟩ h2 _, v1, l1, S1, ?_, ?_⟩
        · rw [HKP.out]; exact h1
        · rw [HKP.out]; have := HL1.out; omega)
      gi_wp2_with fail
      exact HFI.out _
  case done =>
    rintro D xs W hD rfl ⟨v1, l1, S1, hX, hl1⟩ hK
    have HK := hide hK
    have HDW : Hid (w.heap.size ≤ D) := hide (by have := hX.pair.bel.size; have := HZ7.out; have := HI7.out; omega)
    have hXn := hX
    rw [hN] at hXn
    obtain ⟨_, c4, _, c7, c10, _, cq⟩ := hXn.cells
    simp only at c4 c7 c10 cq
    rw [HVD.out] at cq
    have HI : Hid (MwI w A2 n2 c2 W) := hide ⟨hXn.b3, hXn.b4, hXn.pair.bel⟩
    have hee : ((xs.length : Int) == (xs.length : Int)) = true := by simp
    have HW := hide (HKN.out W.drew)
    obtain ⟨P, hP⟩ : ∃ P : World → Prop, P = fun W => W.cell? ⟨b10, 0, none⟩ = some (.int .i64 (xs.length : Int)) ∧ W.cell? ⟨b7, 0, none⟩ = some (.pointer (some ⟨q, 0, none⟩)) ∧ W.cell? ⟨q, 1, none⟩ = some (.slice AD xs.length cD) := ⟨_, rfl⟩
    have hP0 : P W.drew := by rw [hP]; exact ⟨c10, c7, cq⟩
    have HP0 : Hid (∀ W', Below W.heap.size W W' → P W') := hide (fun W' hb => by rw [hP]; exact ⟨(hb.cell (lt_of_cell c10)).trans c10, (hb.cell (lt_of_cell c7)).trans c7, (hb.cell (lt_of_cell cq)).trans cq⟩)
    have HPE := hide hP
    have HNF : Hid (b10 ≠ w.heap.size + 1 ∧ b7 ≠ w.heap.size + 1 ∧ q ≠ w.heap.size + 1) := hide (by
      have hty : ∀ {t : Nat} {cs : Array Value} {b : Nat}, W.heap[b]? = some (.cells cs t (0, 0)) → t ≠ 4 → b ≠ w.heap.size + 1 := fun {t cs b} hb ht e => by
        rw [e, hXn.b4] at hb
        injection hb with hb
        injection hb with _ hb _
        exact ht hb.symm
      exact ⟨hty hXn.b10 (by decide), hty hXn.b7 (by decide), hty hXn.pair.da.blk (by decide)⟩)
    clear hXn hX hK hl1 c4 c7 c10 cq
    gi_wp2_with fail
    refine wpIn_mono (Q := NoPanic _) ?_ NoPanic.imp
    refine wpIn_wide.2 ?_
    refine wp_region_U 11 P (by kernel_rfl) hP0 (fun hHeld => ?_)
    refine AnyU.take (i := 0) (v := ?v101) rfl (by kernel_rfl) (by kernel_rfl) (by kernel_rfl) (by kernel_rfl) (fun _ _ _ h => h) (Or.inl ⟨by rfl, ?hy101⟩) hHeld ?r101
    case hy101 => (intro w hSw; (try dsimp only at hSw); rw [hP] at hSw; obtain ⟨z0, z1, z2⟩ := hSw; go_simp <;> with_reducible rfl)
    simp only [Act.put, List.setIfInBounds_toArray, List.set_cons_zero, List.set_cons_succ]
    refine AnyU.take (i := 1) (v := ?v102) rfl (by kernel_rfl) (by kernel_rfl) (by kernel_rfl) (by kernel_rfl) (fun _ _ _ h => h) (Or.inl ⟨by rfl, ?hy102⟩) hHeld ?r102
    case hy102 => (intro w hSw; (try dsimp only at hSw); rw [hP] at hSw; obtain ⟨z0, z1, z2⟩ := hSw; go_simp <;> with_reducible rfl)
    simp only [Act.put, List.setIfInBounds_toArray, List.set_cons_zero, List.set_cons_succ]
    refine AnyU.take (i := 2) (v := ?v103) rfl (by kernel_rfl) (by kernel_rfl) (by kernel_rfl) (by kernel_rfl) (fun _ _ _ h => h) (Or.inl ⟨by rfl, ?hy103⟩) hHeld ?r103
    case hy103 => (intro w hSw; (try dsimp only at hSw); rw [hP] at hSw; obtain ⟨z0, z1, z2⟩ := hSw; go_simp <;> with_reducible rfl)
    simp only [Act.put, List.setIfInBounds_toArray, List.set_cons_zero, List.set_cons_succ]
    refine AnyU.take (i := 3) (v := ?v104) rfl (by kernel_rfl) (by kernel_rfl) (by kernel_rfl) (by kernel_rfl) (fun _ _ _ h => h) (Or.inl ⟨by rfl, ?hy104⟩) hHeld ?r104
    case hy104 => (intro w hSw; (try dsimp only at hSw); rw [hP] at hSw; obtain ⟨z0, z1, z2⟩ := hSw; go_simp <;> with_reducible rfl)
    simp only [Act.put, List.setIfInBounds_toArray, List.set_cons_zero, List.set_cons_succ]
    refine AnyU.take (i := 4) (v := ?v105) rfl (by kernel_rfl) (by kernel_rfl) (by kernel_rfl) (by kernel_rfl) (fun _ _ _ h => h) (Or.inl ⟨by rfl, ?hy105⟩) hHeld ?r105
    case hy105 => (intro w hSw; (try dsimp only at hSw); rw [hP] at hSw; obtain ⟨z0, z1, z2⟩ := hSw; go_simp <;> with_reducible rfl)
    simp only [Act.put, List.setIfInBounds_toArray, List.set_cons_zero, List.set_cons_succ]
    refine AnyU.take (i := 5) (v := ?v106) rfl (by kernel_rfl) (by kernel_rfl) (by kernel_rfl) (by kernel_rfl) (fun _ _ _ h => h) (Or.inl ⟨by rfl, ?hy106⟩) hHeld ?r106
    case hy106 => (intro w hSw; (try dsimp only at hSw); rw [hP] at hSw; obtain ⟨z0, z1, z2⟩ := hSw; go_simp <;> with_reducible rfl)
    simp only [Act.put, List.setIfInBounds_toArray, List.set_cons_zero, List.set_cons_succ]
    refine AnyU.take (i := 6) (v := ?v107) rfl (by kernel_rfl) (by kernel_rfl) (by kernel_rfl) (by kernel_rfl) (fun _ _ _ h => h) (Or.inl ⟨by rfl, ?hy107⟩) hHeld ?r107
    case hy107 => (intro w hSw; (try dsimp only at hSw); rw [hP] at hSw; obtain ⟨z0, z1, z2⟩ := hSw; go_simp <;> with_reducible rfl)
    simp only [Act.put, List.setIfInBounds_toArray, List.set_cons_zero, List.set_cons_succ]
    refine AnyU.take (i := 7) (v := ?v108) rfl (by kernel_rfl) (by kernel_rfl) (by kernel_rfl) (by kernel_rfl) (fun _ _ _ h => h) (Or.inl ⟨by rfl, ?hy108⟩) hHeld ?r108
    case hy108 => (intro w hSw; (try dsimp only at hSw); rw [hP] at hSw; obtain ⟨z0, z1, z2⟩ := hSw; go_simp <;> with_reducible rfl)
    simp only [Act.put, List.setIfInBounds_toArray, List.set_cons_zero, List.set_cons_succ]
    clear hHeld
    refine AnyU.next (js := [8]) (by kernel_rfl) (by simp) (NextU.cons rfl (fun K hK => ?_) NextU.nil)
    go_simp
    refine (HW.out).mono ?_
    rintro _ W5 ⟨rfl, hb5⟩
    have HB5 : Hid (Below W.heap.size W W5) := hide (((Below.refl _ W).drew).trans (hb5.mono (Nat.le_refl _)))
    have HI5 := hide (HI.out.below HB5.out)
    have HP5 := hide (HP0.out W5 HB5.out)
    have HK5 : Hid (W5.heap[D]? = some (.deferred (some []))) := hide ((HB5.out.block _ (lt_of_block HK.out)).trans HK.out)
    clear hb5
    refine hK.out _ _ (fun _ => HP5.out) (fun hHeld => ?_)
    try simp only [Act.put, List.setIfInBounds_toArray, List.set_cons_zero, List.set_cons_succ]
    clear hK K hHeld
    refine AnyU.next (js := [9]) (by kernel_rfl) (by simp) (NextU.cons rfl (fun K hK => ?_) NextU.nil)
    go_simp
    refine hK.out _ _ (fun _ => HP5.out) (fun hHeld => ?_)
    try simp only [Act.put, List.setIfInBounds_toArray, List.set_cons_zero, List.set_cons_succ]
    clear hK K hHeld
    have b0 := cell_of_row W5 (w.heap.size + 1) 0 _ 4 (0, 0) HI5.out.b4
    have f0 := frozen_of_row W5 (w.heap.size + 1) 0 _ 4 HI5.out.b4
    refine AnyU.next (js := [10]) (by kernel_rfl) (by simp) (NextU.cons rfl (fun K hK => ?_) NextU.nil)
    go_simp
    have HP6 : Hid (P (W5.setCell ⟨w.heap.size + 1, 0, none⟩ (.bool true))) := hide (by
      have h1 := HP5.out
      rw [HPE.out] at h1 ⊢
      have key : ∀ {b i : Nat} {u : Value}, W5.cell? ⟨b, i, none⟩ = some u → b ≠ w.heap.size + 1 → (W5.setCell ⟨w.heap.size + 1, 0, none⟩ (.bool true)).cell? ⟨b, i, none⟩ = some u := fun {b i u} h hne => (World.cell?_of_block (w := W5) (Below.heap_setCell W5 ⟨w.heap.size + 1, 0, none⟩ _ b hne)).trans h
      have hF := HNF.out
      exact ⟨key h1.1 hF.1, key h1.2.1 hF.2.1, key h1.2.2 hF.2.2⟩)
    refine hK.out _ _ (fun _ => HP6.out) (fun hHeld => ?_)
    try simp only [Act.put, List.setIfInBounds_toArray, List.set_cons_zero, List.set_cons_succ]
    clear hK K hHeld
    refine AnyU.over (by kernel_rfl) ?_ _
    refine NoPanic.normal ?_
    have hK6 : (W5.setCell ⟨w.heap.size + 1, 0, none⟩ (.bool true)).heap[D]? = some (.deferred (some [])) := (KeepsOthers.setCell W5 ⟨w.heap.size + 1, 0, none⟩ (.bool true)).same D _ HK5.out rfl
    have hc6 := cell_kept HI5.out.yes.1 (grownBy_putObj' _ D (.deferred none)) (fun r e => by cases e; exact ⟨_, hK6, rfl⟩)
    have HB6 : Hid (Below w.heap.size w ((W5.setCell ⟨w.heap.size + 1, 0, none⟩ (.bool true)).putObj D (.deferred none))) := hide (HI5.out.yes.2.grown (grownBy_putObj' _ D _) HI5.out.yes.2.size (fun k e => by injection e with e; have := HI.out.bel.size; have := HDW.out; omega))
    gi_wp2_with fail
    refine ⟨by simp, .inl ⟨D, _, rfl, run_takeDeferred hK6, ?_⟩⟩
    refine ⟨.bool true, ?_, rfl, HB6.out⟩
    simp [results, Try.results4, go_sem, hc6]
end Go.Proofs.Ytdaicdaakegdmaa
