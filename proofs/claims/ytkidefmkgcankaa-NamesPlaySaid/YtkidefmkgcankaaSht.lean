/- The walk of Short of any table. -/
import Derived.Test.YtkidefmkgcankaaBeg
import Derived.Test.YtkidefmkgcankaaInQ
namespace Go.Proofs.Ytkidefmkgcankaa
open Go.RowKit Go.Shelf

attribute [local go_sem] Oper.semAt_some

structure ShI (w : World) (n : Nat) (nm : ByteArray) (e : Nat) (W : World) : Prop where
  bel : Below w.heap.size w W
  b0 : W.heap[w.heap.size]? = some (.cells #[.int .i64 (n : Int)] 3 (0, 0))
  b1 : W.heap[w.heap.size + 1]? = some (.cells #[.string nm] 9 (0, 0))
  b2 : W.heap[w.heap.size + 1 + 1]? = some (.cells #[.int .i64 (e : Int)] 3 (0, 0))
section
variable {w W W' : World} {n e B : Nat} {nm : ByteArray}
theorem ShI.own {row : Option Nat} (h : ShI w n nm e W) (hB : w.heap.size + 3 ≤ B) (hg : W.grownBy W' row) (hr : ∀ r, row = some r → B ≤ r) : ShI w n nm e W' := by
  have key : ∀ {j : Nat} {o : Obj}, j < w.heap.size + 3 → W.heap[j]? = some o → W'.heap[j]? = some o := fun hj ho => (hg.block _ (lt_of_block ho) (fun e => by have := hr _ e.symm; omega)).trans ho
  exact ⟨h.bel.grown hg h.bel.size (fun j e => by have := hr j e; omega), key (by omega) h.b0, key (by omega) h.b1, key (by omega) h.b2⟩
theorem ShI.cells (h : ShI w n nm e W) : W.cell? ⟨w.heap.size, 0, none⟩ = some (.int .i64 (n : Int)) ∧ W.cell? ⟨w.heap.size + 1, 0, none⟩ = some (.string nm) ∧ W.cell? ⟨w.heap.size + 1 + 1, 0, none⟩ = some (.int .i64 (e : Int)) ∧ W.frozen? ⟨w.heap.size + 1 + 1, 0, none⟩ = false :=
  ⟨cell_of_row W _ 0 _ _ (0, 0) h.b0, cell_of_row W _ 0 _ _ (0, 0) h.b1, cell_of_row W _ 0 _ _ (0, 0) h.b2, frozen_of_row W _ 0 _ _ h.b2⟩
theorem ShI.drewN (h : ShI w n nm e W) (q : Nat) : ShI w n nm e (W.drewN q) := ⟨⟨h.bel.os, h.bel.tape, h.bel.output, h.bel.size, h.bel.block⟩, h.b0, h.b1, h.b2⟩
theorem ShI.set (h : ShI w n nm e W) (e' : Nat) : ShI w n nm e' (W.setCell ⟨w.heap.size + 1 + 1, 0, none⟩ (.int .i64 (e' : Int))) :=
  ⟨h.bel.setCell (by show w.heap.size ≤ w.heap.size + 1 + 1; omega) _, (Below.heap_setCell _ _ _ _ (by show w.heap.size ≠ w.heap.size + 1 + 1; omega)).trans h.b0, (Below.heap_setCell _ _ _ _ (by show w.heap.size + 1 ≠ w.heap.size + 1 + 1; omega)).trans h.b1, setCell_block h.b2 0 _⟩
theorem ShI.out (h : ShI w n nm e W) (q : Nat) (v : Value) : OutP (fun j => j = w.heap.size + 1 + 1) W ((W.drewN q).setCell ⟨w.heap.size + 1 + 1, 0, none⟩ v) := ((OutP.refl (fun j => j = w.heap.size + 1 + 1) W).drewN q).set ⟨w.heap.size + 1 + 1, 0, none⟩ rfl v
end

theorem wpIn_scope_wide {n : Nat} {P : Program} {c : Code} {Q : Exit → Act → World → Prop} {a : Act} {w : World} (h : c.wpIn Fence.wide n P (Exit.noGoto Q) a w) : (Code.scope c).wpIn Fence.wide n P Q a w :=
  wpIn_wide.2 (wp_scope_straight (wpIn_wide.1 h))
theorem idx_at {s : ByteArray} {j : Nat} {c : UInt8} (hc : s.data.toList[j]? = some c) (W : World) : (Instr.index 9 (.string s) (.int .i64 (j : Int))).run Try.prog W = .ok (.int .u8 (c.toNat : Int)) W := by
  obtain ⟨hj, he⟩ := List.getElem?_eq_some_iff.1 hc
  have hj2 : j < s.size := by simpa using hj
  rw [run_index_string _ _ _ _ _ Try.underlying9, dif_pos ⟨by omega, by omega⟩]
  have e : s[((j : Int)).toNat]'(by omega) = c := by rw [← he]; simp; rfl
  rw [e]
theorem at_same {a b : List UInt8} {j : Nat} (h : j < lcpN a b) : ∃ c, a[j]? = some c ∧ b[j]? = some c := by
  have h1 := lcpN_same a b j h
  have h2 := lcpN_le a b
  exact ⟨a[j], List.getElem?_eq_getElem (by omega), by rw [← h1, List.getElem?_eq_getElem (by omega)]⟩
theorem at_part {a b : List UInt8} (h1 : lcpN a b < a.length) (h2 : lcpN a b < b.length) : ∃ c d, a[lcpN a b]? = some c ∧ b[lcpN a b]? = some d ∧ ((c.toNat : Int) != (d.toNat : Int)) = true := by
  refine ⟨a[lcpN a b], b[lcpN a b], List.getElem?_eq_getElem h1, List.getElem?_eq_getElem h2, ?_⟩
  have h3 := lcpN_part a b h1 h2
  rw [List.getElem?_eq_getElem h1, List.getElem?_eq_getElem h2] at h3
  have h4 : a[lcpN a b].toNat ≠ b[lcpN a b].toNat := fun e => h3 (by rw [(u8_eq_iff _ _).2 e])
  rw [bne_iff_ne]
  omega

set_option maxRecDepth 100000 in
set_option maxHeartbeats 4000000 in
theorem short_any {w : World} {B p m : Nat} {v : Value} {l : List ByteArray} {most : Int} (h : NT w B p v m l most) (n : Nat) (nm : ByteArray) (hn : l[n]? = some nm) (hsz : 1 ≤ nm.size ∧ nm.size ≤ 64) :
    Calls Try.prog 23 #[.pointer (some ⟨p, 0, none⟩), .int .i64 (n : Int)] w (BelowPost (.tuple #[.int .i64 (shN l n l.length : Nat), .bool true]) w) := by
  have hl : l.length ≤ 2000000 := by have := h.len; have := h.most; omega
  obtain ⟨w1, hw1⟩ : ∃ w1, w1 = w.alloc (.cells #[.int .i64 (n : Int)] 3) := ⟨_, rfl⟩
  obtain ⟨w3, hw3⟩ : ∃ w3, w3 = (w1.alloc (.cells #[.string nm] 9)).alloc (.cells #[.int .i64 1] 3) := ⟨_, rfl⟩
  have hB1 : Below w.heap.size w w1 := by rw [hw1]; exact (Below.refl _ _).alloc (Nat.le_refl _) _
  have hz1 : w1.heap.size = w.heap.size + 1 := by rw [hw1]; simp
  have hB3 : Below w.heap.size w w3 := by rw [hw3]; exact ((hB1.alloc hB1.size _)).alloc (by simp; omega) _
  have hz3 : w3.heap.size = w.heap.size + 3 := by rw [hw3]; simp; omega
  have x0 : w3.heap[w.heap.size]? = some (.cells #[.int .i64 (n : Int)] 3 (0, 0)) := by
    rw [hw3, Below.heap_alloc _ _ _ (by simp; omega), Below.heap_alloc _ _ _ (by omega), hw1]; exact heap_alloc_new w _
  have x1 : w3.heap[w.heap.size + 1]? = some (.cells #[.string nm] 9 (0, 0)) := by
    rw [hw3, Below.heap_alloc _ _ _ (by simp; omega), ← hz1]; exact heap_alloc_new w1 _
  have x2 : w3.heap[w.heap.size + 1 + 1]? = some (.cells #[.int .i64 1] 3 (0, 0)) := by
    rw [hw3]
    have := heap_alloc_new (w1.alloc (.cells #[.string nm] 9)) (.cells #[.int .i64 1] 3)
    simpa [hz1] using this
  have y0 := cell_of_row w1 w.heap.size 0 _ 3 (0, 0) (by rw [hw1]; exact heap_alloc_new w _)
  simp only [List.getElem?_toArray, List.getElem?_cons_zero] at y0
  have HNM := hide (name_hit (h.below hB1) n nm hn)
  have HALL := hide (all_any (h.below hB3))
  have HI3 : Hid (ShI w n nm (shN l n 0) w3) := hide ⟨hB3, x0, x1, x2⟩
  have HNB : Hid (nmB l n = nm.data.toList) := hide (nmB_of hn)
  clear x0 x1 x2 hB3 hB1 h hn
  refine (callsIn_wide (n := 9)).1 ?_
  refine callsIn_of_wp_marks Try.func23 rfl trivial ?_ rfl
  simp only [Try.ntmps23, List.size_toArray, List.length_cons, List.length_nil, Nat.reduceAdd, Nat.reduceSub, Array.replicate_succ, Array.replicate_zero, List.push_toArray, List.append_toArray, List.nil_append, List.cons_append]
  gi_wp2_with fail
  rw [← hw1]
  have HW1 := hide hw1
  have HW3 := hide hw3
  clear hw1 hw3
  refine wpIn_scope_wide ?_
  gi_wp2_with (refine ⟨trivial, ?_⟩; gi_at_call 21; refine (callsIn_wide.2 HNM.out).mono ?_; rintro e _ ⟨rfl, rfl⟩)
  rw [← HW3.out]
  clear y0
  refine wpIn_label ?_
  gi_wp2_with fail
  refine ⟨trivial, (callsIn_wide.2 HALL.out).mono ?_⟩
  rintro e w4 ⟨b, A, c, rfl, hbz, hbb, hown, hb4⟩
  have hz4 := hb4.size
  have HBB := hide hbb
  have HOW := hide hown
  have HI4 : Hid (ShI w n nm (shN l n 0) w4) := hide (HI3.out.own (B := w3.heap.size) (by omega) (row := none) ⟨hb4.os, hb4.tape, hb4.output, hb4.size, fun k hk _ => hb4.block k hk⟩ (fun r e => by cases e))
  clear hbb hown hb4
  gi_wp2_with fail
  refine wpIn_rangeSeq (α := Nat × ByteArray) (encs := encN) (E := NextN l) (S := fun xs => xs = enumL l l.length) (Sp := fun pre => pre = enumL l pre.length ∧ pre.length ≤ l.length ∧ 0 < pre.length) (gf := 48) (lb := #[.pointer (some ⟨b, 0, none⟩)]) rfl (enters_of Try.func48 (by kernel_rfl) rfl) (fun j => j = w.heap.size + 1 + 1) (fun h => by omega) (fun h => by omega)
    (fun W2 hb hz => names_seq (B := w4.heap.size) ((hb.block _ (lt_of_block HBB.out)).trans HBB.out) ((Reads.of_own HOW.out).below hb) (by omega) hl (fun g hg e => by have := HOW.out.lt g (by cases A with | none => cases e | some a => exact e); omega)) (fun _ => rfl)
    (fun pre W => ShI w n nm (shN l n pre.length) W) (fun _ _ _ => False)
    (fun s X Y row hs hg hr => hs.own (B := w4.heap.size) (by omega) hg (fun r e => (hr r e).1)) (fun _ _ _ _ _ hs _ _ => hs) HI4.out
    (fun x => { tmps := #[.pointer (some ⟨p, 0, none⟩), .int .i64 (n : Int), undef, .pointer (some ⟨w.heap.size, 0, none⟩), .int .i64 0, .bool false, .pointer (some ⟨w.heap.size + 1, 0, none⟩), .bool true, .pointer (some ⟨w.heap.size + 1 + 1, 0, none⟩), .int .i64 (x.1 : Int), .string x.2, undef,
      .tuple #[.string nm, .bool true], .pointer (some ⟨p, 0, none⟩), .int .i64 (n : Int), .tuple #[.string nm, .bool true], .string nm, .bool true, .bool true, .bool false, .pointer (some ⟨p, 0, none⟩), .func (.func 48) #[] #[.pointer (some ⟨b, 0, none⟩)], .int .i64 (x.1 : Int), .string x.2, undef, undef, undef, undef, undef, undef, undef, undef, undef, undef, undef, undef, undef, undef, undef, undef, undef, undef, undef, undef, undef, undef, undef, undef, undef, undef, undef, undef, undef], defers := [] }) 7 ?assign ?body ?done ?stop
  case assign =>
    intro l' pre x W' K he hK
    clear he
    obtain ⟨x1, x2⟩ := x
    simp only [encN]
    gi_wp2
    exact hK
  case body =>
    rintro l' pre x Wr hgi ⟨hpre, hpl, rfl⟩ hsz'
    obtain ⟨k, hk⟩ : ∃ k, k = pre.length := ⟨_, rfl⟩
    have HK1 : Hid (∀ y : Nat × ByteArray, (pre ++ [y]).length = k + 1) := hide (fun y => by rw [List.length_append, ← hk]; rfl)
    rw [← hk] at hpl hgi ⊢
    have HGI := hide hgi
    obtain ⟨d0, d1, d2, f2⟩ := hgi.cells
    have HNK : Hid (nmB l k = (l.getD k ⟨#[]⟩).data.toList) := hide rfl
    generalize l.getD k ⟨#[]⟩ = nk at *
    by_cases hkn : k = n
    · subst hkn
      have heq : ((k : Int) == (k : Int)) = true := by simp
      clear hgi hpre hk
      gi_wp2_with fail
      exact ⟨OutP.refl _ _, by show ShI w k nm (shN l k (pre ++ [(k, nk)]).length) Wr; rw [HK1.out, shN_succ, if_pos rfl]; exact HGI.out⟩
    · have hkn' : ((k : Int) == (n : Int)) = false := by rw [beq_eq_false_iff_ne]; omega
      obtain ⟨a, ha⟩ : ∃ a, a = nm.data.toList := ⟨_, rfl⟩
      obtain ⟨b', hb'⟩ : ∃ b', b' = nk.data.toList := ⟨_, rfl⟩
      have hal : a.length = nm.size := by rw [ha]; simp
      have hbl : b'.length = nk.size := by rw [hb']; simp
      have HAL := hide hal
      have HBL := hide hbl
      have hle := lcpN_le a b'
      have HLE := hide hle
      obtain ⟨e, he⟩ : ∃ e, e = shN l n k := ⟨_, rfl⟩
      have hee : 1 ≤ e ∧ e ≤ nm.size := by
        have h7 := shN_le (l := l) (n := n) (by rw [HNB.out, ← ha, hal]; exact hsz.1) k
        rw [← he, HNB.out, ← ha, hal] at h7
        exact h7
      have HFIN : Hid (∀ (W : World), ShI w n nm (max e (needN a b')) W → OutP (fun j => j = w.heap.size + 1 + 1) Wr W → ∀ a0, bodyO (fun j => j = w.heap.size + 1 + 1) (fun pre W => ShI w n nm (shN l n pre.length) W) (fun _ _ _ => False) (pre ++ [(k, nk)]) Wr .normal a0 W) := hide (fun W h1 h2 _ => ⟨h2, by
        show ShI w n nm (shN l n (pre ++ [(k, nk)]).length) W
        rw [HK1.out, shN_succ, if_neg hkn, ← he, HNB.out, HNK.out, ← ha, ← hb']
        exact h1⟩)
      rw [← he] at hgi d2
      have HGE := hide hgi
      have HA := hide ha
      have HB := hide hb'
      have HEE := hide he
      clear HGI hgi hpre hk hal hbl ha hb' he hle
      gi_wp2_with fail
      gi_loopw [29] (fun i wr => ∃ j q : Nat, j ≤ lcpN a b' ∧ i = .int .i64 (j : Int) ∧ wr = Wr.drewN q) (fun i _ => nm.size - (intOf i).toNat)
      case atStart => exact ⟨0, 0, Nat.zero_le _, rfl, rfl⟩
      case round =>
        obtain ⟨j, q, hj, rfl, rfl⟩ := hrel
        have hl1 := HLE.out.1
        have hl2 := HLE.out.2
        have hl3 := HAL.out
        have hl4 := HBL.out
        by_cases hja : j < nm.size
        · have hja1 : (j : Int) < (nm.size : Int) := by omega
          by_cases hjl : j < lcpN a b'
          · obtain ⟨ch, h1, h2⟩ := at_same hjl
            rw [HA.out] at h1
            rw [HB.out] at h2
            have hx1 := fun W => idx_at h1 W
            have hx2 := fun W => idx_at h2 W
            have hq1 : ((j : Int) == (nk.size : Int)) = false := by rw [beq_eq_false_iff_ne]; omega
            have hq2 : ((ch.toNat : Int) != (ch.toNat : Int)) = false := by simp
            have HJ := hide hjl
            clear h1 h2 hl1 hl2 hl3 hl4 hj hjl
            gi_wp2_with fail
            refine wpIn_region_quietP (by kernel_rfl) (by kernel_rfl) (by kernel_rfl) ?_
            repeat (go_big_quiet_step (fail))
            refine wpQuiet_nil ?_
            intro _ hw'
            obtain ⟨nq, hw''⟩ := hw'
            subst hw''
            gi_wp2
            go_roundw
            case rel => exact ⟨j + 1, _, HJ.out, by go_num, rfl⟩
            case measure => simp [intOf]; omega
          · have hje : j = lcpN a b' := by omega
            have hneed : Hid (needN a b' = j + 1) := hide (by unfold needN; rw [if_pos (by omega), hje])
            have HF : Hid (∀ q, ShI w n nm (max e (needN a b')) ((Wr.drewN q).setCell ⟨w.heap.size + 1 + 1, 0, none⟩ (.int .i64 ((max e (j + 1) : Nat) : Int)))) := hide (fun q => by
              rw [hneed.out]; exact (HGE.out.drewN q).set _)
            have hmx : max (e : Int) ((j : Int) + 1) = ((max e (j + 1) : Nat) : Int) := by omega
            have hwj : IntKind.i64.wrap ((j : Int) + 1) = (j : Int) + 1 := Go.IntWalk.i64_in _ (by omega)
            by_cases hnk : j = nk.size
            · have hq1 : ((j : Int) == (nk.size : Int)) = true := by rw [hnk]; simp
              clear hl1 hl2 hl3 hl4 hj hjl hje hnk
              gi_wp2_with fail
              refine wpIn_region_quietP (by kernel_rfl) (by kernel_rfl) (by kernel_rfl) ?_
              repeat (go_big_quiet_step (fail))
              refine wpQuiet_nil ?_
              intro _ hw'
              obtain ⟨nq, hw''⟩ := hw'
              subst hw''
              gi_wp2
              exact HFIN.out _ (HF.out _) (ShI.out HGE.out _ _) _
            · obtain ⟨ch, cd, h1, h2, hq2⟩ := at_part (a := a) (b := b') (by omega) (by omega)
              rw [← hje, HA.out] at h1
              rw [← hje, HB.out] at h2
              have hx1 := fun W => idx_at h1 W
              have hx2 := fun W => idx_at h2 W
              have hq1 : ((j : Int) == (nk.size : Int)) = false := by rw [beq_eq_false_iff_ne]; omega
              clear h1 h2 hl1 hl2 hl3 hl4 hj hjl hje hnk
              gi_wp2_with fail
              refine wpIn_region_quietP (by kernel_rfl) (by kernel_rfl) (by kernel_rfl) ?_
              repeat (go_big_quiet_step (fail))
              refine wpQuiet_nil ?_
              intro _ hw'
              obtain ⟨nq, hw''⟩ := hw'
              subst hw''
              gi_wp2
              exact HFIN.out _ (HF.out _) (ShI.out HGE.out _ _) _
        · have hjs : j = nm.size := by omega
          have hneed : Hid (needN a b' = nm.size) := hide (by unfold needN; split <;> omega)
          have hmx2 : Hid (max e nm.size = nm.size) := hide (Nat.max_eq_right hee.2)
          have HF : Hid (ShI w n nm (max e (needN a b')) ((Wr.drewN q).setCell ⟨w.heap.size + 1 + 1, 0, none⟩ (.int .i64 ((nm.size : Nat) : Int)))) := hide (by
            rw [hneed.out, hmx2.out]; exact (HGE.out.drewN q).set _)
          have hjs1 : ¬ ((j : Int) < (nm.size : Int)) := by omega
          clear hl1 hl2 hl3 hl4 hj
          subst hjs
          gi_wp2_with fail
          exact HFIN.out _ HF.out (ShI.out HGE.out _ _) _
  case done =>
    rintro D ys W hD rfl hgi hK
    rw [enumL_len] at hgi
    obtain ⟨d0, d1, d2, f2⟩ := hgi.cells
    have HK := hide hK
    have HGI := hide hgi
    clear hgi hK
    gi_wp2_with fail
    refine ⟨by simp, .inl ⟨_, _, rfl, run_takeDeferred HK.out, ?_⟩⟩
    exact ⟨.tuple #[.int .i64 (shN l n l.length : Nat), .bool true], by simp [results, Try.results23, go_sem], rfl, HGI.out.bel.grown (grownBy_putObj' W D _) HGI.out.bel.size (fun j e => by have := Option.some.inj e; omega)⟩
  case stop =>
    rintro D c pre W _ _ h _
    exact h.elim
end Go.Proofs.Ytkidefmkgcankaa
