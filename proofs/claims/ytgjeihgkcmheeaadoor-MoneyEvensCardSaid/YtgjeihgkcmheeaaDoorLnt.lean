/- The walks of lent and kept: a list in memory of its own, with a mark behind. -/
import Derived.Test.YtgjeihgkcmheeaaDoorMn2
namespace Go.Proofs.YtgjeihgkcmheeaaDoor
open Go.RowKit Go.Shelf

theorem info2 : EI Tryd.prog 2 (.int .i64 0) 1 8 := by unfold EI; kernel_rfl
theorem own_new (w : World) (xs : List Value) (t : TypeId) (h1 : xs.length ≤ maxLen) : (w.alloc (.cells xs.toArray t)).ownsRow w.heap.size t 1 (.slice (some ⟨w.heap.size, 0, none⟩) xs.length xs.length) xs.length xs :=
  ⟨by omega, .inr ⟨w.heap.size, xs.length, xs.toArray, rfl, Nat.le_refl _, heap_alloc_new w _, Nat.le_refl _, h1, by simp, by simp⟩⟩
theorem intV_one (l : List Int) : ∀ u ∈ intV l, u.oneCell' = true := by
  intro u hu
  unfold intV at hu
  obtain ⟨c, _, rfl⟩ := List.mem_map.1 hu
  rfl
theorem own_some {w : World} {B e size n : Nat} {v : Value} {xs : List Value} (h : w.ownsRow B e size v n xs) (hn : 0 < n) : ∃ g c, v = .slice (some ⟨g, 0, none⟩) n c ∧ n ≤ c := by
  rcases h.2 with ⟨_, h1⟩ | ⟨g, cap, cur, h1, _, _, hle, _⟩
  · omega
  · exact ⟨g, cap, h1, hle⟩
/-- A row of the call's own: the list, a mark behind, read as the list. -/
structure LentW (w : World) (B g c n : Nat) (l : List Int) : Prop where
  own : w.ownsRow B 2 1 (.slice (some ⟨g, 0, none⟩) (n + 1) c) (n + 1) (intV (l ++ [4242]))
  cap : n + 1 ≤ c
  len : l.length = n
def LentP (l : List Int) (n : Nat) (w : World) (e : Ending) (w' : World) : Prop := ∃ g c, e = .returned (.slice (some ⟨g, 0, none⟩) n c) ∧ LentW w' w.heap.size g c n l ∧ Below w.heap.size w w'
theorem LentW.reads {w : World} {B g c n : Nat} {l : List Int} (h : LentW w B g c n l) : Reads w w.heap.size 1 (some ⟨g, 0, none⟩) n (intV l) := by
  have h1 := (Reads.of_own h.own).front (Nat.le_succ n)
  have e : (intV (l ++ [4242])).take (n * 1) = intV l := by
    unfold intV
    rw [Nat.mul_one, ← List.map_take, List.take_append_of_le_length (by rw [h.len]; exact Nat.le_refl _), List.take_of_length_le (by rw [h.len]; exact Nat.le_refl _)]
  rwa [e] at h1
theorem LentW.mark {w : World} {B g c n : Nat} {l : List Int} (h : LentW w B g c n l) : w.cell? ⟨g, n, none⟩ = some (.int .i64 4242) := by
  have h1 := (Reads.of_own h.own).2 (by omega)
  obtain ⟨b, o, e, _, hx⟩ := h1
  injection e with e
  injection e with e1 e2 _
  subst e1 e2
  have := hx n (.int .i64 4242) (intV_get (by rw [List.getElem?_append_right (by rw [h.len]; exact Nat.le_refl _), h.len, Nat.sub_self]; rfl))
  rwa [Nat.zero_add] at this
theorem LentW.below {w w' : World} {B g c n : Nat} {l : List Int} (h : LentW w B g c n l) (hb : Below w.heap.size w w') : LentW w' B g c n l := ⟨own_below h.own hb (Nat.le_refl _), h.cap, h.len⟩
theorem LentW.lt {w : World} {B g c n : Nat} {l : List Int} (h : LentW w B g c n l) : B ≤ g ∧ g < w.heap.size := h.own.lt g rfl
set_option maxRecDepth 100000 in
set_option maxHeartbeats 4000000 in
theorem lent_any {w : World} {A : Option Addr} {n c : Nat} {l : List Int} (h : Reads w w.heap.size 1 A n (intV l)) (hn : n ≤ 1000000) :
    Calls Tryd.prog 11 #[.slice A n c] w (LentP l n w) := by
  have HN := hide hn
  have HL := hide h.len
  have H0 := hide (own_new w [] 2 (by simp [maxLen]))
  have HB0 : Hid (Below w.heap.size w (w.alloc (.cells #[] 2))) := hide ((Below.refl _ _).alloc (Nat.le_refl _) _)
  have HR := hide ((h.below HB0.out).more HB0.out.size)
  have G1 := hide (intV_one l)
  have G2 : Hid (0 + n ≤ maxLen ∧ n + 1 ≤ maxLen) := hide (by unfold maxLen; omega)
  have G3 : Hid ((0 + n) * 8 ≤ 140737488355328 ∧ (n + 1) * 8 ≤ 140737488355328) := hide (by omega)
  have G4 := hide (intV_one [4242])
  have hn0 : (0 : Int) ≤ (n : Int) := by omega
  have hn9 : (n : Int) ≤ 1000000 := by omega
  clear h
  go_enter Tryd.func11, Tryd.ntmps11
  go_upto_region 2 with (first
    | (at_builtin; refine wpList_append_any rfl (.tmp 3) (.tmp 4) 22 rfl w.heap.size 2 (.int .i64 0) 1 8 info2 Tryd.underlying22 rfl (by decide) _ 0 [] rfl H0.out _ A n c (intV l) rfl HR.out G1.out G2.out.1 G3.out.1 HB0.out.size ?_; intro v1 w1 ho1 hg1 hat1; rw [Nat.zero_add, List.nil_append] at ho1; have HO1 := hide ho1; have HB1 : Hid (Below w.heap.size w w1) := hide (HB0.out.grown hg1 HB0.out.size (fun k e => (H0.out.lt k e).1)); have HRN := hide (own_new w1 [.int .i64 4242] 2 (by simp [maxLen])); have HBN : Hid (Below w1.heap.size w1 (w1.alloc (.cells #[.int .i64 4242] 2))) := hide ((Below.refl _ _).alloc (Nat.le_refl _) _); have HO1b := hide (own_below ho1 HBN.out (Nat.le_refl _)); have HZ1 : Hid (w.heap.size ≤ (w1.alloc (.cells #[.int .i64 4242] 2)).heap.size) := hide (Nat.le_trans HB1.out.size HBN.out.size); obtain ⟨A1, cc1, rfl, _⟩ := own_sh ho1; clear ho1 hg1 hat1)
    | (at_builtin; refine wpList_append_any rfl (.tmp 5) (.tmp 6) 22 rfl w.heap.size 2 (.int .i64 0) 1 8 info2 Tryd.underlying22 rfl (by decide) _ n (intV l) rfl HO1b.out _ (some ⟨w1.heap.size, 0, none⟩) 1 1 (intV [4242]) rfl (Reads.of_own HRN.out) G4.out G2.out.2 G3.out.2 HZ1.out ?_; intro v2 w2 ho2 hg2 hat2; have HO2 := hide ho2; have HB2 : Hid (Below w.heap.size w w2) := hide ((HB1.out.trans (HBN.out.mono HB1.out.size)).grown hg2 HZ1.out (fun k e => (HO1b.out.lt k e).1)); obtain ⟨g, cg, e2, hcg⟩ := own_some ho2 (Nat.succ_pos n); subst e2; have hcn : n ≤ cg := (by omega); clear ho2 hg2 hat2))
  go_ret
  refine ⟨g, cg, rfl, ⟨?_, hcg, HL.out⟩, HB2.out⟩
  have := HO2.out
  unfold intV at this ⊢
  rwa [List.map_append]
set_option maxRecDepth 100000 in
set_option maxHeartbeats 4000000 in
theorem kept_any {w : World} {A : Option Addr} {B g n c c2 : Nat} {l : List Int} (hm : LentW w B g c n l) (h : Reads w w.heap.size 1 A n (intV l)) (hn : n ≤ 1000000) :
    Calls Tryd.prog 16 #[.slice (some ⟨g, 0, none⟩) n c, .slice A n c2] w (BelP (.bool true) w) := by
  have HS := hide (same_any (c1 := c) (c2 := c2) hm.reads h (by omega))
  have HM := hide hm
  have hcap : n + 1 ≤ c := hm.cap
  have hn9 : (n : Int) ≤ 1000000 := by omega
  have hdd : decide (l = l) = true := by simp
  rw [hdd] at HS
  clear h hm hn hdd
  go_enter Tryd.func16, Tryd.ntmps16
  go_wp2_with fail
  refine (HS.out).mono ?_
  rintro _ w1 ⟨rfl, hb⟩
  have HB := hide hb
  have hc1 := (hb.cell (p := ⟨g, n, none⟩) HM.out.lt.2).trans HM.out.mark
  have hw := wrap_in (z := (n : Int) + 1) (by omega)
  have hnn : (n : Int) < (n : Int) + 1 := by omega
  have hnn2 : n < n + 1 := by omega
  have h0n : (0 : Int) ≤ (n : Int) := by omega
  have hcc : (n : Int) + 1 ≤ (c : Int) := by omega
  have h0n1 : (0 : Int) ≤ (n : Int) + 1 := by omega
  clear hb
  go_wp2_with fail
  go_ret
  exact ⟨rfl, HB.out⟩
end Go.Proofs.YtgjeihgkcmheeaaDoor
