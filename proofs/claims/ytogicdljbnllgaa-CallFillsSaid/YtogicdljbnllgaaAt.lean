/- The walks of call.At, with its closure, and of call.Split. -/
import Derived.Test.YtogicdljbnllgaaGave
namespace Go.Proofs.Ytogicdljbnllgaa
open Go.Shelf Go.RowKit Go.Lib Go.Sort Go.Proofs

/-- How many units there are of the wants that f takes. -/
def untI (f : Int × Int → Bool) (l : List (Int × Int)) : Int := ((l.filter f).map Prod.snd).sum
theorem untI_snoc (f : Int × Int → Bool) (l : List (Int × Int)) (x : Int × Int) : untI f (l ++ [x]) = if f x = true then untI f l + x.2 else untI f l := by
  unfold untI
  rw [List.filter_append]
  by_cases h : f x = true
  · rw [if_pos h]; simp [h]
  · rw [if_neg h]; simp [h]
theorem untI_bound (f : Int × Int → Bool) : ∀ l : List (Int × Int), (∀ x ∈ l, 1 ≤ x.2 ∧ x.2 ≤ 64) → 0 ≤ untI f l ∧ untI f l ≤ 64 * l.length
  | [], _ => by simp [untI]
  | x :: l, h => by
    have h1 := untI_bound f l (fun y hy => h y (List.mem_cons_of_mem _ hy))
    have h2 := h x List.mem_cons_self
    unfold untI at h1 ⊢
    by_cases hf : f x = true
    · simp only [List.filter_cons, hf, if_true, List.map_cons, List.sum_cons, List.length_cons]; omega
    · simp only [List.filter_cons, hf, List.length_cons]; simp; omega

theorem meas1 {n k : Nat} {z : Int} (h : k < n) (f : z = ((k + 1 : Nat) : Int)) : n - (intOf (.int .i64 z)).toNat < n - (intOf (.int .i64 (k : Int))).toNat := by
  subst f
  simp only [intOf, Int.toNat_natCast]
  omega
set_option maxRecDepth 100000 in
set_option maxHeartbeats 2000000 in
theorem units_any (σ price : Int) (hσ : σ = 1 ∨ σ = -1) (hp : 0 ≤ price ∧ price ≤ 1099511627776) (pb : Nat) (A : Option Addr) (c : Nat) (l : List (Int × Int)) (w : World) (hc : w.cell? ⟨pb, 0, none⟩ = some (.int .i64 price)) (h : Wants w w.heap.size A l) (hok : OkW l) :
    Calls Try.prog 33 #[.slice A l.length c, .int .i64 σ, .pointer (some ⟨pb, 0, none⟩)] w (ValPost (.int .i64 (untI (fun x => decide (σ * price ≤ σ * x.1)) l)) w) := by
  have hat := h.at_
  have HAT := hide hat
  have HOK := hide hok
  have HPC := hide hc
  have HP := hide hp
  have HSG := hide hσ
  have HPB := hide (World.block_lt_of_cell? _ _ hc)
  clear hat h hok hc hp hσ
  go_enter Try.func33, Try.ntmps33
  go_wp2_with fail
  go_loopw [6, 11] (fun nv iv wr => ∃ k : Nat, k ≤ l.length ∧ iv = .int .i64 k ∧ nv = .int .i64 (untI (fun x => decide (σ * price ≤ σ * x.1)) (l.take k)) ∧ Below w.heap.size w wr) (fun _ iv _ => l.length - (intOf iv).toNat)
  case atStart => exact ⟨0, Nat.zero_le _, rfl, rfl, Below.refl _ _⟩
  case round =>
    obtain ⟨k, hk, rfl, rfl, hb⟩ := hrel
    have HB := hide hb
    clear hb
    by_cases hlt : k < l.length
    · obtain ⟨b, o, rfl, hbB, hcl⟩ := HAT.out (by omega)
      obtain ⟨x, hx⟩ : ∃ x, l[k]? = some x := ⟨l[k], List.getElem?_eq_getElem hlt⟩
      have HX := hide (HOK.out.2 x (List.mem_of_getElem? hx))
      have HT : Hid (untI (fun x => decide (σ * price ≤ σ * x.1)) (l.take (k + 1)) = if decide (σ * price ≤ σ * x.1) = true then untI (fun x => decide (σ * price ≤ σ * x.1)) (l.take k) + x.2 else untI (fun x => decide (σ * price ≤ σ * x.1)) (l.take k)) := hide (by rw [List.take_add_one, hx, Option.toList_some, untI_snoc])
      have HU : Hid (0 ≤ untI (fun x => decide (σ * price ≤ σ * x.1)) (l.take k) ∧ untI (fun x => decide (σ * price ≤ σ * x.1)) (l.take k) ≤ 64 * 4096) := hide (by
        have h1 := untI_bound (fun x => decide (σ * price ≤ σ * x.1)) (l.take k) (fun y hy => (HOK.out.2 y (List.mem_of_mem_take hy)).2.2)
        have h2 := HOK.out.1
        rw [List.length_take] at h1
        omega)
      obtain ⟨r0, r1⟩ := hcl k x hx
      have r0' := (HB.out.cell (p := ⟨b, o + k * 2, none⟩) hbB).trans r0
      have r1' := (HB.out.cell (p := ⟨b, o + k * 2 + 1, none⟩) hbB).trans r1
      have p0' := (HB.out.cell (p := ⟨pb, 0, none⟩) HPB.out).trans HPC.out
      have hki : (k : Int) < (l.length : Int) := by omega
      obtain ⟨x1, x2⟩ := x
      simp only at r0' r1' HX HT
      generalize untI (fun x => decide (σ * price ≤ σ * x.1)) (l.take k) = n at *
      have HBW : Hid (Below w.heap.size w (wr.alloc (.cells #[.int .i64 x1, .int .i64 x2] 51))) := hide (HB.out.alloc HB.out.size _)
      have p1' : ∀ ob, (wr.alloc ob).cell? ⟨pb, 0, none⟩ = some (.int .i64 price) := fun ob => (World.cell?_alloc_lt wr ob ⟨pb, 0, none⟩ (Nat.lt_of_lt_of_le HPB.out HB.out.size)).trans p0'
      have e1 : wrap64 (σ * x1) = σ * x1 := by have h1 := HX.out; have h2 := HSG.out; unfold wrap64; rcases h2 with rfl | rfl <;> omega
      have e2 : wrap64 (σ * price) = σ * price := by have h1 := HP.out; have h2 := HSG.out; unfold wrap64; rcases h2 with rfl | rfl <;> omega
      have e3 : wrap64 (n + x2) = n + x2 := by have h1 := HX.out; have h2 := HU.out; unfold wrap64; omega
      have HKL : Hid (k < l.length) := hide hlt
      have hk1 : wrap64 ((k : Int) + 1) = ((k + 1 : Nat) : Int) := wrap_next hlt (by have := HOK.out.1; omega)
      clear hcl hx r0 r1 p0' hlt
      by_cases hge : σ * price ≤ σ * x1
      · rw [decide_eq_true hge, if_pos rfl] at HT
        go_wp2_with fail
        go_roundw
        case rel => exact ⟨k + 1, HKL.out, congrArg (Value.int .i64) hk1, by rw [HT.out]; try rw [e3], HBW.out⟩
        case measure => exact meas1 HKL.out hk1
      · rw [decide_eq_false hge, if_neg (by decide)] at HT
        go_wp2_with fail
        go_roundw
        case rel => exact ⟨k + 1, HKL.out, congrArg (Value.int .i64) hk1, by rw [HT.out]; try rw [e3], HBW.out⟩
        case measure => exact meas1 HKL.out hk1
    · obtain rfl : k = l.length := by omega
      have HR := hide (show untI (fun x => decide (σ * price ≤ σ * x.1)) (l.take l.length) = untI (fun x => decide (σ * price ≤ σ * x.1)) l by rw [List.take_length])
      go_wp2_with fail
      go_ret
      exact ⟨ret_eq (int_eq HR.out), HB.out⟩

theorem f_one (price : Int) : (fun x : Int × Int => decide (1 * price ≤ 1 * x.1)) = fun x => decide (price ≤ x.1) := by funext x; rw [Int.one_mul, Int.one_mul]
theorem f_neg (price : Int) : (fun x : Int × Int => decide (-1 * price ≤ -1 * x.1)) = fun x => decide (x.1 ≤ price) := by funext x; congr 1; apply propext; omega
def atA (b s : List (Int × Int)) (price : Int) : Int × Int × Int :=
  if checkI b s ≠ 0 then (0, 0, checkI b s) else if price < 0 ∨ 1099511627776 < price then (0, 0, 2) else (untI (fun x => decide (price ≤ x.1)) b, untI (fun x => decide (x.1 ≤ price)) s, 0)
def AtP (r : Int × Int × Int) (w : World) (e : Ending) (w' : World) : Prop := e = .returned (.tuple #[.int .i64 r.1, .int .i64 r.2.1, .int .i64 r.2.2]) ∧ Below w.heap.size w w'

set_option maxRecDepth 100000 in
set_option maxHeartbeats 2000000 in
theorem priceAt_any (A : Option Addr) (c : Nat) (b : List (Int × Int)) (A' : Option Addr) (c' : Nat) (s : List (Int × Int)) (price : Int) (w : World) (h : Wants w w.heap.size A b) (h' : Wants w w.heap.size A' s) :
    Calls Try.prog 15 #[.slice A b.length c, .slice A' s.length c', .int .i64 price] w (AtP (atA b s price) w) := by
  have HW := hide h
  have HW' := hide h'
  have hb0 : Below w.heap.size w (w.alloc (.cells #[.int .i64 price] 2)) := (Below.refl _ _).alloc (Nat.le_refl _) _
  have HB0 := hide hb0
  have HZ0 : Hid ((w.alloc (.cells #[.int .i64 price] 2)).heap[w.heap.size]? = some (.cells #[.int .i64 price] 2 (0, 0))) := hide (heap_alloc_new w _)
  have HC := hide (check_any A c b A' c' s (w.alloc (.cells #[.int .i64 price] 2)) ((h.below hb0).more hb0.size) ((h'.below hb0).more hb0.size))
  clear h h' hb0
  go_enter Try.func15, Try.ntmps15
  go_upto_region 1 with fail
  generalize w.alloc (.cells #[.int .i64 price] 2) = w0 at *
  by_cases hk : checkI b s = 0
  · have HOK := hide (ok_of_check hk)
    simp only [hk] at HC
    go_upto_region 2 with (go_at_call 18; refine (HC.out).mono ?_; rintro e w1 ⟨rfl, hb1⟩; have HB1 := hide hb1; clear hb1)
    have HZ1 := hide ((HB1.out.block _ (lt_of_block HZ0.out)).trans HZ0.out)
    have HBW := hide (HB0.out.trans (HB1.out.mono HB0.out.size))
    have x0 := cell_of_row w1 w.heap.size 0 _ _ (0, 0) HZ1.out
    simp only [List.getElem?_toArray, List.getElem?_cons_zero, List.getElem?_cons_succ] at x0
    clear HC HZ0 HB0 HB1
    by_cases hp : price < 0 ∨ 1099511627776 < price
    · have HR : Hid (atA b s price = (0, 0, 2)) := hide (by unfold atA; rw [if_neg (by simp [hk]), if_pos hp])
      clear hk
      rcases Classical.em (price < 0) with h0 | h0
      · clear hp
        go_wp2_with fail
        refine bodyPost_ret (v := .tuple #[.int .i64 0, .int .i64 0, .int .i64 2]) (by simp [results, Try.results15, go_sem]) rfl ?_
        exact ⟨by rw [HR.out], HBW.out⟩
      · have h1 : 1099511627776 < price := hp.resolve_left h0
        clear hp
        go_wp2_with fail
        refine bodyPost_ret (v := .tuple #[.int .i64 0, .int .i64 0, .int .i64 2]) (by simp [results, Try.results15, go_sem]) rfl ?_
        exact ⟨by rw [HR.out], HBW.out⟩
    · have HR : Hid (atA b s price = (untI (fun x => decide (price ≤ x.1)) b, untI (fun x => decide (x.1 ≤ price)) s, 0)) := hide (by unfold atA; rw [if_neg (by simp [hk]), if_neg hp])
      have h0 : ¬ price < 0 := by omega
      have h1 : ¬ 1099511627776 < price := by omega
      have HU1 := hide (units_any 1 price (.inl rfl) (by omega) w.heap.size A c b w1 x0 ((HW.out.below HBW.out).more HBW.out.size) HOK.out.1)
      have HU2 := hide (fun (X : World) (hX : Below w1.heap.size w1 X) => units_any (-1) price (.inr rfl) (by omega) w.heap.size A' c' s X ((hX.cell (p := ⟨w.heap.size, 0, none⟩) (lt_of_block HZ1.out)).trans x0) (((HW'.out.below HBW.out).more HBW.out.size |>.below hX).more hX.size) HOK.out.2)
      clear hk hp
      rw [f_one] at HU1
      rw [f_neg] at HU2
      go_upto_region 7 with fail
      go_wp2_with (go_at_call 33; first | (refine (HU1.out).mono ?_; rintro e w2 ⟨rfl, hb2⟩; have HB2 := hide hb2; clear hb2 HU1) | (refine (HU2.out _ HB2.out).mono ?_; rintro e w3 ⟨rfl, hb3⟩; have HB3 := hide hb3; clear hb3))
      refine bodyPost_ret (v := .tuple #[.int .i64 (untI (fun x => decide (price ≤ x.1)) b), .int .i64 (untI (fun x => decide (x.1 ≤ price)) s), .int .i64 0]) (by simp [results, Try.results15, go_sem]) rfl ?_
      exact ⟨by rw [HR.out], HBW.out.trans ((HB2.out.trans (HB3.out.mono HB2.out.size)).mono HBW.out.size)⟩
  · have HR : Hid (atA b s price = (0, 0, checkI b s)) := hide (by unfold atA; rw [if_pos hk])
    have hk1 : (checkI b s != 0) = true := by simpa using hk
    clear hk
    go_upto_region 2 with (go_at_call 18; refine (HC.out).mono ?_; rintro e w1 ⟨rfl, hb1⟩; have HB1 := hide hb1; clear hb1)
    have HBW := hide (HB0.out.trans (HB1.out.mono HB0.out.size))
    clear HC HZ0 HB0 HB1
    go_wp2_with fail
    refine bodyPost_ret (v := .tuple #[.int .i64 0, .int .i64 0, .int .i64 (checkI b s)]) (by simp [results, Try.results15, go_sem]) rfl ?_
    exact ⟨by rw [HR.out], HBW.out⟩

set_option maxRecDepth 100000 in
set_option maxHeartbeats 1000000 in
theorem split_any (pr tr lo hi : Int) (v1 v2 : Value) (n1 n2 : Nat) (A1 A2 : Option Addr) (h1 : v1 = .slice A1 n1 n1) (h2 : v2 = .slice A2 n2 n2) (w : World) :
    Calls Try.prog 23 #[.agg #[.int .i64 pr, .int .i64 tr, .int .i64 lo, .int .i64 hi, v1, v2]] w (fun e w' => e = .returned (.tuple #[.int .i64 (wrap64 (pr * tr)), .int .i64 (wrap64 (pr * tr))]) ∧ Below w.heap.size w w') := by
  subst h1 h2
  have HB : Hid (Below w.heap.size w (w.alloc (.cells #[.int .i64 pr, .int .i64 tr, .int .i64 lo, .int .i64 hi, .slice A1 n1 n1, .slice A2 n2 n2] 28))) := hide ((Below.refl _ _).alloc (Nat.le_refl _) _)
  go_enter Try.func23, Try.ntmps23
  go_wp2_with fail
  refine bodyPost_ret (v := .tuple #[.int .i64 (wrap64 (pr * tr)), .int .i64 (wrap64 (pr * tr))]) (by simp [results, Try.results23, go_sem]) rfl ?_
  exact ⟨rfl, HB.out⟩
end Go.Proofs.Ytogicdljbnllgaa
