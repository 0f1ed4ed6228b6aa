/- For the law CallFair: what is left of shares, the walk of meets, what Clear answers. -/
import Derived.Test.YtogicdljbnllgaaMostP
import Derived.Test.YtogicdljbnllgaaKnown
namespace Go.Proofs.Ytogicdljbnllgaa
open Go.Shelf Go.RowKit Go.Lib Go.Sort Go.Proofs

attribute [local go_sem] Oper.semAt_some

def negN (t : Trd) : Trd := (t.1, t.2.1, -t.2.2)
/-- What is left of shares behind trades. -/
def remB (l : List Int) (ts : List Trd) : List Int := (ts.map negN).foldl (fun l t => addAt l t.1.1.toNat t.2.2) l
def remS (l : List Int) (ts : List Trd) : List Int := (ts.map negN).foldl (fun l t => addAt l t.2.1.1.toNat t.2.2) l
theorem remB_snoc (l : List Int) (ts : List Trd) (t : Trd) : remB l (ts ++ [t]) = addAt (remB l ts) t.1.1.toNat (-t.2.2) := by simp [remB, negN]
theorem remS_snoc (l : List Int) (ts : List Trd) (t : Trd) : remS l (ts ++ [t]) = addAt (remS l ts) t.2.1.1.toNat (-t.2.2) := by simp [remS, negN]
theorem remB_len (l : List Int) (ts : List Trd) : (remB l ts).length = l.length := by unfold remB; rw [fold_len (fun t => t.1.1.toNat)]
theorem remS_len (l : List Int) (ts : List Trd) : (remS l ts).length = l.length := by unfold remS; rw [fold_len (fun t => t.2.1.1.toNat)]
theorem neg_sum (p : Trd → Bool) (ts : List Trd) : (ts.map fun t => if p t = true then -t.2.2 else 0).sum = -(ts.map fun t => if p t = true then t.2.2 else 0).sum := by
  induction ts with
  | nil => rfl
  | cons t ts ih =>
    rw [List.map_cons, List.map_cons, List.sum_cons, List.sum_cons, ih]
    split <;> omega
theorem remB_zero {n : Nat} {ts : List Trd} (h : ∀ t ∈ ts, 0 ≤ t.1.1) {i : Nat} {x : Int} (hx : (remB (givenB n ts) ts)[i]? = some x) : x = 0 := by
  have hi : i < n := by
    have := (List.getElem?_eq_some_iff.1 hx).1
    rw [remB_len, givenB_len] at this
    exact this
  unfold remB at hx
  rw [fold_at (fun t => t.1.1) (ts.map negN) _ _ (fun t ht => by obtain ⟨u, hu, rfl⟩ := List.mem_map.1 ht; exact h u hu), givenB_at h hi, giv_sum, List.map_map] at hx
  have := neg_sum (fun t => decide (t.1.1 = (i : Int))) ts
  simp only [decide_eq_true_eq] at this
  have e : ((fun t : Trd => if t.1.1 = (i : Int) then t.2.2 else 0) ∘ negN) = fun t => if t.1.1 = (i : Int) then -t.2.2 else 0 := rfl
  rw [e, this] at hx
  simp only [Option.map_some, Option.some.injEq] at hx
  omega
theorem remS_zero {n : Nat} {ts : List Trd} (h : ∀ t ∈ ts, 0 ≤ t.2.1.1) {i : Nat} {x : Int} (hx : (remS (givenS n ts) ts)[i]? = some x) : x = 0 := by
  have hi : i < n := by
    have := (List.getElem?_eq_some_iff.1 hx).1
    rw [remS_len, givenS_len] at this
    exact this
  unfold remS at hx
  rw [fold_at (fun t => t.2.1.1) (ts.map negN) _ _ (fun t ht => by obtain ⟨u, hu, rfl⟩ := List.mem_map.1 ht; exact h u hu), givenS_at h hi, giv_swap, List.map_map] at hx
  have := neg_sum (fun t => decide (t.2.1.1 = (i : Int))) ts
  simp only [decide_eq_true_eq] at this
  have e : ((fun t : Trd => if t.2.1.1 = (i : Int) then t.2.2 else 0) ∘ negN) = fun t => if t.2.1.1 = (i : Int) then -t.2.2 else 0 := rfl
  rw [e, this] at hx
  simp only [Option.map_some, Option.some.injEq] at hx
  omega
theorem rem_bound (f : Trd → Nat) : ∀ (ts : List Trd) (l : List Int) (M : Int), (∀ t ∈ ts, 0 ≤ t.2.2 ∧ t.2.2 ≤ 64) → 0 ≤ M → (∀ x ∈ l, -M ≤ x ∧ x ≤ 64) → ∀ x ∈ (ts.map negN).foldl (fun l t => addAt l (f t) t.2.2) l, -(M + 64 * ts.length) ≤ x ∧ x ≤ 64
  | [], l, M, _, _, h => fun x hx => by have := h x hx; simp only [List.length_nil]; omega
  | t :: ts, l, M, ht, hM, h => fun x hx => by
    have h0 := ht t List.mem_cons_self
    have h1 : ∀ y ∈ addAt l (f (negN t)) (negN t).2.2, -(M + 64) ≤ y ∧ y ≤ 64 := fun y hy => by
      generalize f (negN t) = j at hy
      rcases List.mem_or_eq_of_mem_set hy with hy | rfl
      · have := h y hy; omega
      · have e : (negN t).2.2 = -t.2.2 := rfl
        rw [List.getD_eq_getElem?_getD, e]
        cases hc : l[j]? with
        | none => simp only [Option.getD_none]; omega
        | some z => have := h z (List.mem_of_getElem? hc); simp only [Option.getD_some]; omega
    have := rem_bound f ts (addAt l (f (negN t)) (negN t).2.2) (M + 64) (fun u hu => ht u (List.mem_cons_of_mem _ hu)) (by omega) h1 x hx
    simp only [List.length_cons]
    omega
theorem take_sum_le : ∀ (l : List Int) (k : Nat), (∀ x ∈ l, 0 ≤ x) → 0 ≤ (l.take k).sum ∧ (l.take k).sum ≤ l.sum
  | [], k, _ => by simp
  | x :: l, 0, h => by
    have h1 := (take_sum_le l l.length (fun y hy => h y (List.mem_cons_of_mem _ hy))).1
    have h2 := h x List.mem_cons_self
    rw [List.take_length] at h1
    simp only [List.take_zero, List.sum_nil, List.sum_cons]
    omega
  | x :: l, k + 1, h => by
    have h1 := take_sum_le l k (fun y hy => h y (List.mem_cons_of_mem _ hy))
    have h2 := h x List.mem_cons_self
    simp only [List.take_succ_cons, List.sum_cons]
    omega
theorem take_sum_succ {l : List Int} {k : Nat} {x : Int} (h : l[k]? = some x) : (l.take (k + 1)).sum = (l.take k).sum + x := by
  rw [List.take_add_one, h]
  simp

abbrev callV (n m : Nat) (pr tr lo hi : Int) (g1 g2 : Nat) : Array Value := #[.int .i64 pr, .int .i64 tr, .int .i64 lo, .int .i64 hi, .slice (some ⟨g1, 0, none⟩) n n, .slice (some ⟨g2, 0, none⟩) m m]

set_option maxRecDepth 100000 in
set_option maxHeartbeats 2000000 in
theorem meets_any (A : Option Addr) (c : Nat) (b : List (Int × Int)) (A' : Option Addr) (c' : Nat) (s : List (Int × Int)) (pr tr lo hi : Int) (v1 v2 : Value) (A1 A2 : Option Addr) (n1 n2 : Nat) (e1 : v1 = .slice A1 n1 n1) (e2 : v2 = .slice A2 n2 n2) (w : World) (h : Wants w w.heap.size A b) (h' : Wants w w.heap.size A' s) (hb : b.length ≤ 1000000) (hs : s.length ≤ 1000000)
    (hm : ¬ 0 < tr → ∀ (i k : Nat) x y, b[i]? = some x → s[k]? = some y → x.1 < y.1) :
    Calls Try.prog 24 #[.slice A b.length c, .slice A' s.length c', .agg #[.int .i64 pr, .int .i64 tr, .int .i64 lo, .int .i64 hi, v1, v2]] w (ValPost (.bool true) w) := by
  subst e1 e2
  have hal : Below w.heap.size w (w.alloc (.cells #[.int .i64 pr, .int .i64 tr, .int .i64 lo, .int .i64 hi, .slice A1 n1 n1, .slice A2 n2 n2] 28)) := (Below.refl _ _).alloc (Nat.le_refl _) _
  have HB := hide hal
  have HW := hide h
  have HW' := hide h'
  clear hal h h'
  by_cases ht : 0 < tr
  · go_enter Try.func24, Try.ntmps24
    go_wp2_with fail
    go_ret
    exact ⟨rfl, HB.out⟩
  have HM := hide (hm ht)
  clear hm
  go_enter Try.func24, Try.ntmps24
  go_wp2_with fail
  generalize w.alloc (.cells #[.int .i64 pr, .int .i64 tr, .int .i64 lo, .int .i64 hi, .slice A1 n1 n1, .slice A2 n2 n2] 28) = w0 at *
  go_loopw [7] (fun iv wr => ∃ k : Nat, k ≤ b.length ∧ iv = .int .i64 k ∧ Below w.heap.size w wr) (fun iv _ => b.length - (intOf iv).toNat)
  case atStart => exact ⟨0, Nat.zero_le _, rfl, HB.out⟩
  case round =>
    obtain ⟨k, hk, rfl, hbk⟩ := hrel
    clear HB
    by_cases hlt : k < b.length
    · have HBK := hide hbk
      obtain ⟨x, hx⟩ : ∃ x, b[k]? = some x := ⟨b[k], List.getElem?_eq_getElem hlt⟩
      have HX := hide hx
      have hki : (k : Int) < (b.length : Int) := by omega
      clear hbk hx
      go_wp2_with fail
      go_loopw [8] (fun jv wj => ∃ j : Nat, j ≤ s.length ∧ jv = .int .i64 j ∧ Below w.heap.size w wj) (fun jv _ => s.length - (intOf jv).toNat)
      case atStart => exact ⟨0, Nat.zero_le _, rfl, HBK.out⟩
      case round =>
        obtain ⟨j, hj, rfl, hbj⟩ := hrel
        clear HBK
        by_cases hjt : j < s.length
        · obtain ⟨y, hy⟩ : ∃ y, s[j]? = some y := ⟨s[j], List.getElem?_eq_getElem hjt⟩
          have hxy := HM.out k j x y HX.out hy
          obtain ⟨bb, bo, rfl, hbb, hcb⟩ := Wants.at_ HW.out (by omega)
          obtain ⟨sb, so, rfl, hsb, hcs⟩ := Wants.at_ HW'.out (by omega)
          have u0 := (hbj.cell (p := ⟨bb, bo + k * 2, none⟩) hbb).trans (hcb k _ HX.out).1
          have u1 := (hbj.cell (p := ⟨sb, so + j * 2, none⟩) hsb).trans (hcs j _ hy).1
          have hjs : (j : Int) < (s.length : Int) := by omega
          have hno : ¬ y.1 ≤ x.1 := by omega
          have hno2 : decide (y.1 ≤ x.1) = false := decide_eq_false hno
          have HBJ := hide hbj
          clear hbj hcb hcs hbb hsb hxy hy
          go_wp2_with fail
          go_quiet (fail)
          go_wp2_with fail
          go_roundw
          case rel => exact ⟨j + 1, by omega, by go_num, below_drewN HBJ.out _⟩
          case measure => exact meas_i hjt (by omega)
        · obtain rfl : j = s.length := by omega
          have HBJ := hide hbj
          clear hbj
          go_wp2_with fail
          go_roundw
          case rel => exact ⟨k + 1, by omega, by go_num, HBJ.out⟩
          case measure => exact meas_i hlt (by omega)
    · obtain rfl : k = b.length := by omega
      have HBK := hide hbk
      clear hbk
      go_wp2_with fail
      go_ret
      exact ⟨rfl, HBK.out⟩
end Go.Proofs.Ytogicdljbnllgaa
