/- The walk of the iterator that money.Even tells. -/
import Derived.Test.YtgjeihgkcmheeaaDoorEvn
namespace Go.Proofs.YtgjeihgkcmheeaaDoor
open Go.RowKit Go.Shelf

attribute [local go_sem] Oper.semAt_some

theorem callsIn_in {m l' : Nat} {P : Program} {f : FuncId} {args : Array Value} {w : World} {R : Ending → World → Prop} (h : Calls P f args w R) : CallsIn (Fence.wide.inRound l') m P f args w R :=
  (callsIn_wide (n := m)).2 h
theorem cell?_of_out {p : Nat → Prop} {w w' : World} {g i : Nat} {v : Value} (h : OutP p w w') (hg : g < w.heap.size) (hp : ¬ p g) (hc : w.cell? ⟨g, i, none⟩ = some v) : w'.cell? ⟨g, i, none⟩ = some v :=
  (World.cell?_of_block (h.block g hg hp)).trans hc

set_option maxRecDepth 100000 in
set_option maxHeartbeats 4000000 in
theorem even_seq {c n : Int} {b1 b2 : Nat} {p : Nat → Prop} {W : World} (hn9 : -9223372036854775808 ≤ n ∧ n ≤ 9223372036854775807) (h1 : W.heap[b1]? = some (.cells #[.int .i64 c] 2 (0, 0))) (h2 : W.heap[b2]? = some (.cells #[.int .i64 n] 3 (0, 0))) (hp1 : ¬ p b1) (hp2 : ¬ p b2) :
    SeqO p Tryd.prog 45 #[.pointer (some ⟨b1, 0, none⟩), .pointer (some ⟨b2, 0, none⟩)] encE (fun xs => xs = evL c n (evenN c n)) (fun pre => pre = evL c n pre.length ∧ pre.length ≤ evenN c n ∧ 0 < pre.length) (NextE c n) W := by
  intro L J Jx hJ hJx hY h0
  have HY := hide hY
  have c1 := cell_of_row W b1 0 _ 2 (0, 0) h1
  have c2 := cell_of_row W b2 0 _ 3 (0, 0) h2
  simp at c1 c2
  have HC : Hid (∀ wr, OutP p W wr → wr.cell? ⟨b1, 0, none⟩ = some (.int .i64 c) ∧ wr.cell? ⟨b2, 0, none⟩ = some (.int .i64 n)) := hide (fun wr ho => ⟨cell?_of_out ho (lt_of_block h1) hp1 c1, cell?_of_out ho (lt_of_block h2) hp2 c2⟩)
  have HA := hide (are_any c)
  have H0 := hide h0
  clear hY hJ hJx h0 h1 h2 hp1 hp2
  refine (callsIn_wide (n := 4)).1 ?_
  refine callsIn_of_wp Tryd.func45 rfl trivial ?_ rfl
  simp only [Tryd.ntmps45, List.size_toArray, List.length_cons, List.length_nil, Nat.reduceAdd, Nat.reduceSub, Array.replicate_succ, Array.replicate_zero, List.push_toArray, List.append_toArray, List.nil_append, List.cons_append]
  cases hc : isC c with
  | false =>
    have hN : evL c n (evenN c n) = [] := by unfold evenN; rw [hc]; rfl
    rw [hc] at HA
    have HN := hide hN
    clear hc hN
    gi_wp2_with fail
    refine ⟨trivial, (callsIn_wide.2 (HA.out _)).mono ?_⟩
    rintro _ _ ⟨rfl, rfl⟩
    gi_wp2_with fail
    refine bodyPost_ret (results_none rfl _ _ _) rfl ?_
    exact ⟨⟨_, rfl⟩, .inl ⟨_, rfl, by rw [HN.out]; exact H0.out⟩⟩
  | true =>
    have hN : evenN c n = n.toNat := by unfold evenN; rw [hc]; rfl
    rw [hc] at HA
    obtain ⟨hc0, hc1⟩ := isC_iff.1 hc
    obtain ⟨cn, rfl⟩ : ∃ cn : Nat, c = cn := ⟨c.toNat, by omega⟩
    have HN := hide hN
    have HCB : Hid (cn ≤ 1099511627776) := hide (by omega)
    clear hc hN hc0 hc1
    gi_wp2_with fail
    refine ⟨trivial, (callsIn_wide.2 (HA.out _)).mono ?_⟩
    rintro _ _ ⟨rfl, rfl⟩
    rename World => W
    gi_wp2_with fail
    clear c1 c2
    gi_loopw [4, 5] (fun i _ wr => ∃ k : Nat, k ≤ n.toNat ∧ i = .int .i64 k ∧ J (evL cn n k) wr ∧ OutP p W wr) (fun i _ _ => n.toNat - (intOf i).toNat)
    case atStart => exact ⟨0, Nat.zero_le _, rfl, H0.out, OutP.refl _ _⟩
    case round =>
      obtain ⟨k, hk, rfl, hj, ho⟩ := hrel
      obtain ⟨e1, e2⟩ := HC.out _ ho
      by_cases hlt : (k : Int) < n
      · obtain ⟨nn, rfl⟩ : ∃ nn : Nat, n = nn := ⟨n.toNat, by omega⟩
        obtain ⟨f1, f2, f3, f4⟩ := div_facts (cn := cn) (nn := nn) HCB.out (by omega)
        have hn0 : ¬ (nn : Int) = 0 := by omega
        have hnz : ((nn : Int) == 0) = false := by rw [beq_eq_false_iff_ne]; exact hn0
        obtain ⟨q, hq⟩ : ∃ q, q = cn / nn := ⟨_, rfl⟩
        obtain ⟨r, hrr⟩ : ∃ r, r = cn % nn := ⟨_, rfl⟩
        rw [← hq] at f1 f3
        rw [← hrr] at f2 f4
        clear hq hrr
        have v1 : IntKind.i64.wrap (q : Int) = (q : Int) := wrap_in (by omega)
        have v2 : IntKind.i64.wrap (r : Int) = (r : Int) := wrap_in (by omega)
        have v3 : IntKind.i64.wrap ((q : Int) + 1) = (q : Int) + 1 := wrap_in (by omega)
        have v4 : IntKind.i64.wrap ((k : Int) + 1) = (k : Int) + 1 := wrap_in (by omega)
        have HX : Hid (evenX cn nn k = if (k : Int) < (r : Int) then (q : Int) + 1 else (q : Int)) := hide (by unfold evenX; rw [f1, f2])
        obtain ⟨x, hx⟩ : ∃ x, x = evenX cn nn k := ⟨_, rfl⟩
        have HNX : Hid (NextE cn nn (evL cn nn k) ((k : Int), x)) := hide ⟨by rw [evL_len], by rw [evL_len, HN.out]; omega, by rw [evL_len, hx]⟩
        have HTS : Hid (evL cn nn (k + 1) = evL cn nn k ++ [((k : Int), x)]) := hide (by rw [evL_succ, hx])
        have HOU := hide ho
        have HKN : Hid (k < nn) := hide (by omega)
        obtain ⟨fn, tmps, assign, body, hyy, hR⟩ := HY.out (evL cn nn k) ((k : Int), x) wr hj HNX.out ho 3
        simp only [encE] at hyy
        rw [← hx] at HX
        have HXX := HX.out
        have hi2 : (0 : Int) ≤ (k : Int) := by omega
        clear ho hj hx HX f3 f4
        by_cases hkr : (k : Int) < (r : Int)
        · rw [if_pos hkr] at HXX
          subst HXX
          gi_wp2_with fail
          refine hR.mono ?_
          rintro e W3 ⟨ho3, (⟨rfl, hJ3⟩ | ⟨rfl, hJx3⟩)⟩
          · have HO3 : Hid (OutP p W W3) := hide (HOU.out.trans ho3)
            rw [← HTS.out] at hJ3
            have HJ3 := hide hJ3
            clear hJ3 ho3 hyy
            gi_wp2
            go_roundw
            case rel => exact ⟨k + 1, by have := HKN.out; omega, by go_num, HJ3.out, HO3.out⟩
            case measure => have := HKN.out; simp [intOf]; omega
          · rw [← HTS.out] at hJx3
            have HJX := hide hJx3
            clear hJx3 hyy
            gi_wp2
            refine bodyPost_ret (results_none rfl _ _ _) rfl ?_
            exact ⟨⟨_, rfl⟩, .inr ⟨_, ⟨by rw [evL_len], by rw [evL_len, HN.out]; have := HKN.out; omega, by rw [evL_len]; omega⟩, HJX.out⟩⟩
        · rw [if_neg hkr] at HXX
          subst HXX
          gi_wp2_with fail
          refine hR.mono ?_
          rintro e W3 ⟨ho3, (⟨rfl, hJ3⟩ | ⟨rfl, hJx3⟩)⟩
          · have HO3 : Hid (OutP p W W3) := hide (HOU.out.trans ho3)
            rw [← HTS.out] at hJ3
            have HJ3 := hide hJ3
            clear hJ3 ho3 hyy
            gi_wp2
            go_roundw
            case rel => exact ⟨k + 1, by have := HKN.out; omega, by go_num, HJ3.out, HO3.out⟩
            case measure => have := HKN.out; simp [intOf]; omega
          · rw [← HTS.out] at hJx3
            have HJX := hide hJx3
            clear hJx3 hyy
            gi_wp2
            refine bodyPost_ret (results_none rfl _ _ _) rfl ?_
            exact ⟨⟨_, rfl⟩, .inr ⟨_, ⟨by rw [evL_len], by rw [evL_len, HN.out]; have := HKN.out; omega, by rw [evL_len]; omega⟩, HJX.out⟩⟩
      · have hkn : k = n.toNat := by omega
        have HJ9 : Hid (J (evL cn n n.toNat) wr) := hide (hkn ▸ hj)
        clear hj
        gi_wp2
        go_end0
        exact ⟨⟨_, rfl⟩, .inl (by rw [HN.out]; exact HJ9.out)⟩
end Go.Proofs.YtgjeihgkcmheeaaDoor
