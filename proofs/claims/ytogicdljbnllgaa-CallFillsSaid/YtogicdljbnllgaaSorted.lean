/- The walks of call.sorted with its closure: the places of a side in order. -/
import Derived.Test.YtogicdljbnllgaaSides
namespace Go.Proofs.Ytogicdljbnllgaa
open Go.Shelf Go.RowKit Go.Lib Go.Sort Go.Proofs

def wantAt (l : List (Int × Int)) (i : Nat) : Int × Int := (l[i]?).getD (0, 0)
theorem wantAt_eq {l : List (Int × Int)} {i : Nat} {x : Int × Int} (h : l[i]? = some x) : wantAt l i = x := by unfold wantAt; rw [h]; rfl
/-- Which of two places stands ahead: by what counts, then by place. -/
def cfK (κ : Int × Int → Int) (l : List (Int × Int)) (x y : Int) : Int := orI (sgnI (κ (wantAt l x.toNat)) (κ (wantAt l y.toNat))) (sgnI x y)
theorem ltK (κ : Int × Int → Int) (l : List (Int × Int)) (x y : Int) : ltOf (cfK κ l) x y = decide (κ (wantAt l x.toNat) < κ (wantAt l y.toNat) ∨ (κ (wantAt l x.toNat) = κ (wantAt l y.toNat) ∧ x < y)) := by
  unfold ltOf cfK orI sgnI
  generalize κ (wantAt l x.toNat) = a
  generalize κ (wantAt l y.toNat) = b
  rw [decide_eq_decide]
  (repeat' split) <;> omega
theorem swoK (κ : Int × Int → Int) (l : List (Int × Int)) : SWO (ltOf (cfK κ l)) where
  irrefl x := by rw [ltK]; simp
  trans x y z h1 h2 := by rw [ltK] at *; simp at *; omega
  ntrans x y z h1 h2 := by rw [ltK] at *; simp at *; omega

set_option maxRecDepth 100000 in
set_option maxHeartbeats 4000000 in
theorem place_any (κ : Int × Int → Int) (gf : Nat) (cb : Array Value) (fc wc : Nat) (l : List (Int × Int)) (b o c i j : Nat) (W : World) (hi : i < l.length) (hj : j < l.length) (hl : l.length ≤ 1000000) (eg : ∀ args w, (callFunc gf args).run Try.prog w = .ok (.enter gf args) w)
    (c0 : W.cell? ⟨fc, 0, none⟩ = some (.func (.func gf) #[] cb)) (c1 : W.cell? ⟨wc, 0, none⟩ = some (.slice (some ⟨b, o, none⟩) l.length c))
    (hat : ∀ (k : Nat) (x : Int × Int), l[k]? = some x → W.cell? ⟨b, o + k * 2, none⟩ = some (.int .i64 x.1) ∧ W.cell? ⟨b, o + k * 2 + 1, none⟩ = some (.int .i64 x.2))
    (HF0 : ∀ X, Gro W X → ∀ x y : Int × Int, Calls Try.prog gf (#[wantV x, wantV y] ++ cb) X (GroPost (.int .i64 (sgnI (κ x) (κ y))) X)) :
    Calls Try.prog 51 #[.int .i64 (i : Int), .int .i64 (j : Int), .pointer (some ⟨fc, 0, none⟩), .pointer (some ⟨wc, 0, none⟩)] W (GroPost (.int .i64 (cfK κ l (i : Int) (j : Int))) W) := by
  obtain ⟨x, hx⟩ : ∃ x, l[i]? = some x := ⟨l[i], List.getElem?_eq_getElem hi⟩
  obtain ⟨y, hy⟩ : ∃ y, l[j]? = some y := ⟨l[j], List.getElem?_eq_getElem hj⟩
  obtain ⟨a0, a1⟩ := hat i x hx
  obtain ⟨b0, b1⟩ := hat j y hy
  have HR : Hid (cfK κ l (i : Int) (j : Int) = orI (sgnI (κ x) (κ y)) (sgnI (i : Int) (j : Int))) := hide (by unfold cfK; rw [Int.toNat_natCast, Int.toNat_natCast, wantAt_eq hx, wantAt_eq hy])
  have HF := hide HF0
  have HC := hide (fun W => cmpint_any (i : Int) (j : Int) W)
  have hii : (i : Int) < (l.length : Int) := by omega
  have hjj : (j : Int) < (l.length : Int) := by omega
  clear hat HF0 hx hy hi hj
  obtain ⟨x1, x2⟩ := x
  obtain ⟨y1, y2⟩ := y
  simp only at a0 a1 b0 b1
  have HFX : Hid (∀ X, Gro W X → Calls Try.prog gf (#[wantV (x1, x2), wantV (y1, y2)] ++ cb) X (GroPost (.int .i64 (sgnI (κ (x1, x2)) (κ (y1, y2)))) X)) := hide (fun X hX => HF.out X hX (x1, x2) (y1, y2))
  simp only [wantV] at HFX
  generalize sgnI (κ (x1, x2)) (κ (y1, y2)) = s at *
  generalize sgnI (i : Int) (j : Int) = t at *
  clear HF
  go_enter Try.func51, Try.ntmps51
  go_wp2_with fail
  have hS0 := And.intro c0 (And.intro c1 (And.intro a0 (And.intro a1 (And.intro b0 b1))))
  refine wp_region_U 16 (fun X => X.cell? ⟨fc, 0, none⟩ = some (.func (.func gf) #[] cb) ∧ X.cell? ⟨wc, 0, none⟩ = some (.slice (some ⟨b, o, none⟩) l.length c) ∧ X.cell? ⟨b, o + i * 2, none⟩ = some (.int .i64 x1) ∧ X.cell? ⟨b, o + i * 2 + 1, none⟩ = some (.int .i64 x2) ∧ X.cell? ⟨b, o + j * 2, none⟩ = some (.int .i64 y1) ∧ X.cell? ⟨b, o + j * 2 + 1, none⟩ = some (.int .i64 y2)) rfl hS0 (fun hHeld => ?_)
  have HS : Hid (∀ X, Gro W X → X.cell? ⟨fc, 0, none⟩ = some (.func (.func gf) #[] cb) ∧ X.cell? ⟨wc, 0, none⟩ = some (.slice (some ⟨b, o, none⟩) l.length c) ∧ X.cell? ⟨b, o + i * 2, none⟩ = some (.int .i64 x1) ∧ X.cell? ⟨b, o + i * 2 + 1, none⟩ = some (.int .i64 x2) ∧ X.cell? ⟨b, o + j * 2, none⟩ = some (.int .i64 y1) ∧ X.cell? ⟨b, o + j * 2 + 1, none⟩ = some (.int .i64 y2)) := hide (fun X hX => ⟨hX.cell c0, hX.cell c1, hX.cell a0, hX.cell a1, hX.cell b0, hX.cell b1⟩)
  have HG1 : Hid (Gro W W.drew) := hide (Gro.refl W).drew
  clear c0 c1 a0 a1 b0 b1 hS0
  refine AnyU.take (i := 0) (v := ?v1) rfl (by kernel_rfl) (by kernel_rfl) (by kernel_rfl) (by kernel_rfl) (fun _ _ _ h => h) (Or.inl ⟨by rfl, ?hy1⟩) hHeld ?r1
  case hy1 => (intro w hSw; (try dsimp only at hSw); go_simp <;> with_reducible rfl)
  simp only [Act.put, List.setIfInBounds_toArray, List.set_cons_zero, List.set_cons_succ]
  refine AnyU.take (i := 1) (v := ?v2) rfl (by kernel_rfl) (by kernel_rfl) (by kernel_rfl) (by kernel_rfl) (fun _ _ _ h => h) (Or.inl ⟨by rfl, ?hy2⟩) hHeld ?r2
  case hy2 => (intro w hSw; (try dsimp only at hSw); go_simp <;> with_reducible rfl)
  simp only [Act.put, List.setIfInBounds_toArray, List.set_cons_zero, List.set_cons_succ]
  refine AnyU.take (i := 2) (v := ?v3) rfl (by kernel_rfl) (by kernel_rfl) (by kernel_rfl) (by kernel_rfl) (fun _ _ _ h => h) (Or.inl ⟨by rfl, ?hy3⟩) hHeld ?r3
  case hy3 => (intro w hSw; (try dsimp only at hSw); go_simp <;> with_reducible rfl)
  simp only [Act.put, List.setIfInBounds_toArray, List.set_cons_zero, List.set_cons_succ]
  refine AnyU.take (i := 3) (v := ?v4) rfl (by kernel_rfl) (by kernel_rfl) (by kernel_rfl) (by kernel_rfl) (fun _ _ _ h => h) (Or.inl ⟨by rfl, ?hy4⟩) hHeld ?r4
  case hy4 => (intro w hSw; (try dsimp only at hSw); go_simp <;> with_reducible rfl)
  simp only [Act.put, List.setIfInBounds_toArray, List.set_cons_zero, List.set_cons_succ]
  refine AnyU.take (i := 4) (v := ?v5) rfl (by kernel_rfl) (by kernel_rfl) (by kernel_rfl) (by kernel_rfl) (fun _ _ _ h => h) (Or.inl ⟨by rfl, ?hy5⟩) hHeld ?r5
  case hy5 => (intro w hSw; (try dsimp only at hSw); go_simp <;> with_reducible rfl)
  simp only [Act.put, List.setIfInBounds_toArray, List.set_cons_zero, List.set_cons_succ]
  refine AnyU.take (i := 5) (v := ?v6) rfl (by kernel_rfl) (by kernel_rfl) (by kernel_rfl) (by kernel_rfl) (fun _ _ _ h => h) (Or.inl ⟨by rfl, ?hy6⟩) hHeld ?r6
  case hy6 => (intro w hSw; (try dsimp only at hSw); go_simp <;> with_reducible rfl)
  simp only [Act.put, List.setIfInBounds_toArray, List.set_cons_zero, List.set_cons_succ]
  refine AnyU.take (i := 6) (v := ?v7) rfl (by kernel_rfl) (by kernel_rfl) (by kernel_rfl) (by kernel_rfl) (fun _ _ _ h => h) (Or.inl ⟨by rfl, ?hy7⟩) hHeld ?r7
  case hy7 => (intro w hSw; (try dsimp only at hSw); go_simp <;> with_reducible rfl)
  simp only [Act.put, List.setIfInBounds_toArray, List.set_cons_zero, List.set_cons_succ]
  refine AnyU.take (i := 7) (v := ?v8) rfl (by kernel_rfl) (by kernel_rfl) (by kernel_rfl) (by kernel_rfl) (fun _ _ _ h => h) (Or.inl ⟨by rfl, ?hy8⟩) hHeld ?r8
  case hy8 => (intro w hSw; (try dsimp only at hSw); go_simp <;> with_reducible rfl)
  simp only [Act.put, List.setIfInBounds_toArray, List.set_cons_zero, List.set_cons_succ]
  refine AnyU.take (i := 8) (v := ?v9) rfl (by kernel_rfl) (by kernel_rfl) (by kernel_rfl) (by kernel_rfl) (fun _ _ _ h => h) (Or.inl ⟨by rfl, ?hy9⟩) hHeld ?r9
  case hy9 => (intro w hSw; (try dsimp only at hSw); go_simp <;> with_reducible rfl)
  simp only [Act.put, List.setIfInBounds_toArray, List.set_cons_zero, List.set_cons_succ]
  refine AnyU.take (i := 10) (v := ?v10) rfl (by kernel_rfl) (by kernel_rfl) (by kernel_rfl) (by kernel_rfl) (fun _ _ _ h => h) (Or.inl ⟨by rfl, ?hy10⟩) hHeld ?r10
  case hy10 => (intro w hSw; (try dsimp only at hSw); go_simp <;> with_reducible rfl)
  simp only [Act.put, List.setIfInBounds_toArray, List.set_cons_zero, List.set_cons_succ]
  refine AnyU.take (i := 11) (v := ?v11) rfl (by kernel_rfl) (by kernel_rfl) (by kernel_rfl) (by kernel_rfl) (fun _ _ _ h => h) (Or.inl ⟨by rfl, ?hy11⟩) hHeld ?r11
  case hy11 => (intro w hSw; (try dsimp only at hSw); go_simp <;> with_reducible rfl)
  simp only [Act.put, List.setIfInBounds_toArray, List.set_cons_zero, List.set_cons_succ]
  refine AnyU.next (js := [9]) (by kernel_rfl) (by simp) (NextU.cons rfl (fun K hK => ?_) NextU.nil)
  go_simp
  refine (HFX.out _ HG1.out).mono ?_
  rintro e w2 ⟨rfl, hg⟩
  have HG2 := hide (HG1.out.trans hg)
  clear hg
  go_wp2_with fail
  refine hK.out _ _ (fun _ => HS.out _ HG2.out) (fun hHeld => ?_)
  replace hHeld := hHeld (by decide)
  try simp only [Act.put, List.setIfInBounds_toArray, List.set_cons_zero, List.set_cons_succ]
  refine AnyU.next (js := [12]) (by kernel_rfl) (by simp) (NextU.cons rfl (fun K hK => ?_) NextU.nil)
  go_simp
  refine (HC.out _).mono ?_
  rintro e _ ⟨rfl, rfl⟩
  go_wp2_with fail
  refine hK.out _ _ (fun _ => HS.out _ HG2.out) (fun hHeld => ?_)
  replace hHeld := hHeld (by decide)
  try simp only [Act.put, List.setIfInBounds_toArray, List.set_cons_zero, List.set_cons_succ]
  refine AnyU.next (js := [13]) (by kernel_rfl) (by simp) (NextU.cons rfl (fun K hK => ?_) NextU.nil)
  go_simp
  have HG3 := hide (HG2.out.alloc (.cells #[.int .i64 s, .int .i64 t] 3))
  have HO := hide (or_any w2.heap.size s t (w2.alloc (.cells #[.int .i64 s, .int .i64 t] 3)) (World.cell?_alloc_mark w2 _ _ (0, 0) 0) (World.cell?_alloc_mark w2 _ _ (0, 0) 1))
  refine hK.out _ _ (fun _ => HS.out _ HG3.out) (fun hHeld => ?_)
  replace hHeld := hHeld (by decide)
  try simp only [Act.put, List.setIfInBounds_toArray, List.set_cons_zero, List.set_cons_succ]
  refine AnyU.next (js := [14]) (by kernel_rfl) (by simp) (NextU.cons rfl (fun K hK => ?_) NextU.nil)
  go_simp
  refine (HO.out).mono ?_
  rintro e _ ⟨rfl, rfl⟩
  go_wp2_with fail
  refine hK.out _ _ (fun _ => HS.out _ HG3.out) (fun hHeld => ?_)
  replace hHeld := hHeld (by decide)
  try simp only [Act.put, List.setIfInBounds_toArray, List.set_cons_zero, List.set_cons_succ]
  refine AnyU.take (i := 15) (v := ?v12) rfl (by kernel_rfl) (by kernel_rfl) (by kernel_rfl) (by kernel_rfl) (fun _ _ _ h => h) (Or.inl ⟨by rfl, ?hy12⟩) hHeld ?r12
  case hy12 => (intro w hSw; (try dsimp only at hSw); go_simp <;> with_reducible rfl)
  simp only [Act.put, List.setIfInBounds_toArray, List.set_cons_zero, List.set_cons_succ]
  refine AnyU.over (by kernel_rfl) ?_ _
  go_wp2_with fail
  go_ret
  exact ⟨by rw [HR.out]; rfl, HG3.out⟩
end Go.Proofs.Ytogicdljbnllgaa
