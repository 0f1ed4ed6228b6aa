/- The walks of the document's Even and of the iterator that money.Even tells. -/
import Derived.Test.YtgjeihgkcmheeaaDoorWrk
import Derived.Test.YtgjeihgkcmheeaaDoorSeqO
namespace Go.Proofs.YtgjeihgkcmheeaaDoor
open Go.RowKit Go.Shelf

attribute [local go_sem] Oper.semAt_some

/-- The share of a part. -/
def evenX (c n i : Int) : Int := if i < c.tmod n then c.tdiv n + 1 else c.tdiv n
/-- How many parts are told. -/
def evenN (c n : Int) : Nat := if isC c = true then n.toNat else 0
def evL (c n : Int) (k : Nat) : List (Int × Int) := (List.range k).map fun (i : Nat) => ((i : Int), evenX c n (i : Int))
theorem evL_succ (c n : Int) (k : Nat) : evL c n (k + 1) = evL c n k ++ [((k : Int), evenX c n k)] := by unfold evL; rw [List.range_succ, List.map_append]; rfl
theorem evL_len (c n : Int) (k : Nat) : (evL c n k).length = k := by simp [evL]
def encE (x : Int × Int) : Array Value := #[.int .i64 x.1, .int .i64 x.2]
def NextE (c n : Int) (pre : List (Int × Int)) (x : Int × Int) : Prop := pre = evL c n pre.length ∧ pre.length < evenN c n ∧ x = ((pre.length : Int), evenX c n pre.length)
theorem div_facts {cn nn : Nat} (hc : cn ≤ 1099511627776) (hn : 0 < nn) : (cn : Int).tdiv nn = ((cn / nn : Nat) : Int) ∧ (cn : Int).tmod nn = ((cn % nn : Nat) : Int) ∧ cn / nn ≤ 1099511627776 ∧ cn % nn ≤ 1099511627776 := by
  refine ⟨tdivN cn nn, ?_, Nat.le_trans (Nat.div_le_self _ _) hc, Nat.le_trans (Nat.mod_le _ _) hc⟩
  rw [Int.tmod_eq_emod_of_nonneg (by omega)]; rfl
set_option maxRecDepth 100000 in
set_option maxHeartbeats 4000000 in
theorem docEven_any (c n i : Int) (w : World) : Calls Tryd.prog 46 #[.int .i64 c, .int .i64 n, .int .i64 i] w (SameP (if isC c = true ∧ 0 ≤ i ∧ i < n then .tuple #[.int .i64 (evenX c n i), .bool true] else .tuple #[.int .i64 0, .bool false]) w) := by
  have HA := hide (docAre_any c w)
  cases hc : isC c with
  | false =>
    rw [if_neg (by simp)]
    rw [hc] at HA
    clear hc
    go_enter Tryd.func46, Tryd.ntmps46
    go_wp2_with fail
    refine (HA.out).mono ?_
    rintro _ _ ⟨rfl, rfl⟩
    go_wp2_with fail
    go_ret2
    exact ⟨rfl, rfl⟩
  | true =>
    rw [hc] at HA
    obtain ⟨hc0, hc1⟩ := isC_iff.1 hc
    clear hc
    by_cases hi : i < 0
    · rw [if_neg (by omega)]
      clear hc0 hc1
      go_enter Tryd.func46, Tryd.ntmps46
      go_wp2_with fail
      refine (HA.out).mono ?_
      rintro _ _ ⟨rfl, rfl⟩
      go_wp2_with fail
      go_ret2
      exact ⟨rfl, rfl⟩
    · by_cases hin : n ≤ i
      · rw [if_neg (by omega)]
        clear hc0 hc1
        go_enter Tryd.func46, Tryd.ntmps46
        go_wp2_with fail
        refine (HA.out).mono ?_
        rintro _ _ ⟨rfl, rfl⟩
        go_wp2_with fail
        go_ret2
        exact ⟨rfl, rfl⟩
      · rw [if_pos ⟨rfl, by omega, by omega⟩]
        obtain ⟨cn, rfl⟩ : ∃ cn : Nat, c = cn := ⟨c.toNat, by omega⟩
        obtain ⟨nn, rfl⟩ : ∃ nn : Nat, n = nn := ⟨n.toNat, by omega⟩
        obtain ⟨f1, f2, f3, f4⟩ := div_facts (cn := cn) (nn := nn) (by omega) (by omega)
        have hn0 : ¬ (nn : Int) = 0 := by omega
        have hnz : ((nn : Int) == 0) = false := by rw [beq_eq_false_iff_ne]; exact hn0
        obtain ⟨q, hq⟩ : ∃ q, q = cn / nn := ⟨_, rfl⟩
        obtain ⟨r, hrr⟩ : ∃ r, r = cn % nn := ⟨_, rfl⟩
        rw [← hq] at f1 f3
        rw [← hrr] at f2 f4
        clear hq hrr
        have w1 : IntKind.i64.wrap (q : Int) = (q : Int) := wrap_in (by omega)
        have w2 : IntKind.i64.wrap (r : Int) = (r : Int) := wrap_in (by omega)
        have w3 : IntKind.i64.wrap ((q : Int) + 1) = (q : Int) + 1 := wrap_in (by omega)
        have HX : Hid (evenX cn nn i = if i < (r : Int) then (q : Int) + 1 else (q : Int)) := hide (by unfold evenX; rw [f1, f2])
        rw [HX.out]
        have hin2 : ¬ (nn : Int) ≤ i := hin
        clear hc0 hc1 f3 f4 HX
        by_cases hr : i < (r : Int)
        · rw [if_pos hr]
          go_enter Tryd.func46, Tryd.ntmps46
          go_wp2_with fail
          refine (HA.out).mono ?_
          rintro _ _ ⟨rfl, rfl⟩
          go_wp2_with fail
          go_ret2
          exact ⟨rfl, rfl⟩
        · rw [if_neg hr]
          go_enter Tryd.func46, Tryd.ntmps46
          go_wp2_with fail
          refine (HA.out).mono ?_
          rintro _ _ ⟨rfl, rfl⟩
          go_wp2_with fail
          go_ret2
          exact ⟨rfl, rfl⟩
end Go.Proofs.YtgjeihgkcmheeaaDoor
