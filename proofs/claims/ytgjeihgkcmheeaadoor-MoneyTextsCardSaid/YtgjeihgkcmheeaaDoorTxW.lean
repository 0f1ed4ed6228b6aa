/- The walk of the document's Parse. -/
import Derived.Test.YtgjeihgkcmheeaaDoorTxP
namespace Go.Proofs.YtgjeihgkcmheeaaDoor
open Go.RowKit Go.Shelf

/-- A text's byte as a number. -/
def bq (s : ByteArray) (n : Nat) : Int := ((s.data.toList.getD n 0).toNat : Int)
theorem get_bq (s : ByteArray) : ∀ (n : Nat) (h : n < s.size), ((s[n]'h).toNat : Int) = bq s n := fun n h => by
  unfold bq
  have h2 : n < s.data.toList.length := by simpa using h
  rw [List.getD_eq_getElem?_getD, List.getElem?_eq_getElem h2]
  rfl
theorem bq_at {s : ByteArray} {n : Nat} (h : n < s.size) : ∃ b : UInt8, s.data.toList[n]? = some b ∧ bq s n = (b.toNat : Int) := by
  have h2 : n < s.data.toList.length := by simpa using h
  refine ⟨s.data.toList[n], List.getElem?_eq_getElem h2, ?_⟩
  unfold bq
  rw [List.getD_eq_getElem?_getD, List.getElem?_eq_getElem h2]
  rfl
theorem wrapU8 (d : Nat) (h : d ≤ 9) : IntKind.u8.wrap (d : Int) = (d : Int) := by
  match d, h with
  | 0, _ | 1, _ | 2, _ | 3, _ | 4, _ | 5, _ | 6, _ | 7, _ | 8, _ | 9, _ => decide
theorem dec_at {l : List UInt8} {k n : Nat} {b : UInt8} (h : Lib.decFrom 0 (l.take k) = some n) (hb : l[k]? = some b) :
    (48 ≤ b.toNat ∧ b.toNat ≤ 57 ∧ Lib.decFrom 0 (l.take (k + 1)) = some (n * 10 + (b.toNat - 48))) ∨ ((b.toNat < 48 ∨ 57 < b.toNat) ∧ Lib.decFrom 0 l = none) := by
  by_cases h1 : 48 ≤ b.toNat ∧ b.toNat ≤ 57
  · exact .inl ⟨h1.1, h1.2, Lib.decFrom_take l k 0 n b (b.toNat - 48) h hb (by unfold Lib.digitVal; rw [if_pos h1])⟩
  · refine .inr ⟨by omega, ?_⟩
    cases hx : Lib.decFrom 0 l with
    | none => rfl
    | some x =>
      obtain ⟨d, hd⟩ := Lib.digit_of_decFrom l 0 x hx k b hb
      unfold Lib.digitVal at hd
      rw [if_neg h1] at hd
      cases hd
set_option maxRecDepth 100000 in
set_option maxHeartbeats 4000000 in
theorem docParse_any (s : ByteArray) (hs : s.size ≤ 281474976710656) (w : World) : Calls Tryd.prog 20 #[.string s] w (SameP (.tuple #[.int .i64 (docP s.data.toList).1, .int .i64 (docP s.data.toList).2]) w) := by
  have hbq := get_bq s
  have hlen : s.data.toList.length = s.size := by simp
  by_cases h0 : s.size = 0
  · have hz : docP s.data.toList = (0, 121) := by unfold docP; rw [if_pos (.inl (by omega))]
    rw [hz]
    have h0i : (s.size : Int) = 0 := by omega
    clear hz hlen hbq
    go_enter Tryd.func20, Tryd.ntmps20
    go_wp2_with fail
    go_ret2
    exact ⟨rfl, rfl⟩
  have h0i : ¬ (s.size : Int) = 0 := by omega
  have h0n : 0 < s.size := by omega
  by_cases h13 : 13 < s.size
  · have hz : docP s.data.toList = (0, 121) := by unfold docP; rw [if_pos (.inr (.inl (by omega)))]
    rw [hz]
    have h13i : (13 : Int) < (s.size : Int) := by omega
    clear hz hlen hbq
    go_enter Tryd.func20, Tryd.ntmps20
    go_wp2_with fail
    go_ret2
    exact ⟨rfl, rfl⟩
  have h13i : ¬ (13 : Int) < (s.size : Int) := by omega
  obtain ⟨b0, hb0, hq0⟩ := bq_at h0n
  have hfirst : Hid (∀ (t : Int), True) := hide (fun _ => trivial)
  have HDOC : Hid (¬ (1 < s.data.toList.length ∧ s.data.toList[0]? = some 48) → docP s.data.toList = match Lib.decFrom 0 s.data.toList with
    | none => (0, 121)
    | some x => if 1099511627776 < x then (0, 121) else (x, 0)) := hide (fun h => by
      unfold docP
      rw [if_neg (by
        rintro (h1 | h1 | h1)
        · omega
        · omega
        · exact h h1)]
      rfl)
  have HLN : Hid (s.data.toList.length = s.size ∧ 0 < s.size ∧ s.size ≤ 13) := hide ⟨hlen, h0n, by omega⟩
  by_cases hlead : 1 < s.size ∧ b0 = 48
  · have hz : docP s.data.toList = (0, 121) := by
      unfold docP
      rw [if_pos (.inr (.inr ⟨by omega, by rw [hb0, hlead.2]⟩))]
    rw [hz]
    have h1i : (1 : Int) < (s.size : Int) := by omega
    rw [hlead.2] at hq0
    have hq1 : bq s 0 = 48 := hq0
    clear hz hlen hq0 hlead hb0 HDOC
    go_enter Tryd.func20, Tryd.ntmps20
    go_wp2_with fail
    go_ret2
    exact ⟨rfl, rfl⟩
  have HD2 := hide (HDOC.out (fun h => hlead ⟨by omega, by rw [hb0] at h; exact Option.some.inj h.2⟩))
  have HR : Hid (∃ r1 r2 : Int, docP s.data.toList = (r1, r2)) := hide ⟨_, _, rfl⟩
  obtain ⟨r1, r2, hr⟩ := HR.out
  have e0 : ((s.size : Int) == 0) = false := by rw [beq_eq_false_iff_ne]; exact h0i
  have hg : (s.size ≤ 1 ∧ ¬ (1 : Int) < (s.size : Int)) ∨ ((1 : Int) < (s.size : Int) ∧ (bq s 0 == 48) = false) := by
    by_cases h1 : 1 < s.size
    · refine .inr ⟨by omega, ?_⟩
      rw [beq_eq_false_iff_ne]
      refine fun e => hlead ⟨h1, ?_⟩
      apply UInt8.toNat_inj.1
      have e2 : (48 : UInt8).toNat = 48 := rfl
      omega
    · exact .inl ⟨by omega, by omega⟩
  rw [hr] at HD2 ⊢
  clear hfirst HDOC hlead hb0 hq0 hlen hr HR
  go_enter Tryd.func20, Tryd.ntmps20
  rcases hg with ⟨_, hg⟩ | ⟨hg, hg2⟩
  all_goals
    go_wp2_with fail
    go_loopw [5, 4] (fun iv xv W => ∃ (k n : Nat), k ≤ s.size ∧ iv = .int .i64 k ∧ xv = .int .i64 n ∧ W = w ∧ Lib.decFrom 0 (s.data.toList.take k) = some n ∧ n < 10 ^ k) (fun iv _ _ => s.size - (intOf iv).toNat)
    case atStart => exact ⟨0, 0, Nat.zero_le _, rfl, rfl, rfl, rfl, by decide⟩
    case round =>
      rename World => wi
      obtain ⟨k, n, hk, rfl, rfl, rfl, hd, hn⟩ := hrel
      rename World => w
      have hk0 : (0 : Int) ≤ (k : Int) := by omega
      have hp : 10 ^ k ≤ 10 ^ 13 := Nat.pow_le_pow_right (by decide) (by have := HLN.out; omega)
      have hp2 : (10 : Nat) ^ 13 = 10000000000000 := by decide
      have hn9 : (n : Int) ≤ 10000000000000 := by omega
      have hn0 : (0 : Int) ≤ (n : Int) := by omega
      by_cases hlt : k < s.size
      · have hki : (k : Int) < (s.size : Int) := by omega
        obtain ⟨b, hb, hq⟩ := bq_at hlt
        rcases dec_at hd hb with ⟨h1, h2, h3⟩ | ⟨h1, h2⟩
        · have HX : Hid (k < s.size ∧ Lib.decFrom 0 (s.data.toList.take (k + 1)) = some (n * 10 + (b.toNat - 48)) ∧ n * 10 + (b.toNat - 48) < 10 ^ (k + 1)) := hide ⟨hlt, h3, by rw [Nat.pow_succ]; omega⟩
          obtain ⟨d, hd9⟩ : ∃ d : Nat, d = b.toNat - 48 := ⟨_, rfl⟩
          have hq2 : bq s k = ((d + 48 : Nat) : Int) := by omega
          have hdd : d ≤ 9 := by omega
          rw [← hd9] at HX
          have f1 : ¬ ((d : Int) + 48 < 48) := by omega
          have f2 : ¬ (57 < (d : Int) + 48) := by omega
          have w1 : IntKind.u8.wrap ((d : Int) + 48 - 48) = (d : Int) := by
            rw [show (d : Int) + 48 - 48 = d by omega]
            exact wrapU8 d hdd
          have w2 : IntKind.i64.wrap (10 * (n : Int)) = 10 * (n : Int) := wrap_in (by omega)
          have w3 : IntKind.i64.wrap (10 * (n : Int) + (d : Int)) = 10 * (n : Int) + (d : Int) := wrap_in (by omega)
          have w4 : IntKind.i64.wrap (d : Int) = (d : Int) := wrap_in (by omega)
          rw [Int.natCast_add] at hq2
          have hq3 : bq s k = (d : Int) + 48 := hq2
          clear hd hb hq h1 h2 h3 hd9 hp hp2 hn hq2 hdd hlt HD2
          go_wp2_with fail
          have e1 : ((n * 10 + d : Nat) : Int) = 10 * (n : Int) + (d : Int) := by omega
          refine ⟨⟨k + 1, n * 10 + d, HX.out.1, by go_num, by rw [e1], trivial, HX.out.2.1, HX.out.2.2⟩, ?_⟩
          have := HX.out.1
          simp [intOf]
          omega
        · rw [h2] at HD2
          obtain ⟨rfl, rfl⟩ : r1 = 0 ∧ r2 = 121 := by
            have := HD2.out
            simp only [Prod.mk.injEq] at this
            exact this
          rcases h1 with h1 | h1
          · have f1 : bq s k < 48 := by omega
            clear hd hb hq h1 h2 hp hp2 hn HD2
            go_wp2_with fail
            go_ret2
            exact ⟨rfl, rfl⟩
          · have f1 : ¬ bq s k < 48 := by omega
            have f2 : 57 < bq s k := by omega
            clear hd hb hq h1 h2 hp hp2 hn HD2
            go_wp2_with fail
            go_ret2
            exact ⟨rfl, rfl⟩
      · have hki : ¬ (k : Int) < (s.size : Int) := by omega
        rw [List.take_of_length_le (by have := HLN.out; omega)] at hd
        rw [hd] at HD2
        by_cases hbig : 1099511627776 < n
        · obtain ⟨rfl, rfl⟩ : r1 = 0 ∧ r2 = 121 := by
            have := HD2.out
            simp only [if_pos hbig, Prod.mk.injEq] at this
            exact this
          have hbi : (1099511627776 : Int) < (n : Int) := by omega
          clear hd hp hp2 hn HD2 hbig hlt
          go_wp2_with fail
          go_ret2
          exact ⟨rfl, rfl⟩
        · obtain ⟨rfl, rfl⟩ : r1 = (n : Int) ∧ r2 = 0 := by
            have := HD2.out
            simp only [if_neg hbig, Prod.mk.injEq] at this
            exact this
          have hbi : ¬ (1099511627776 : Int) < (n : Int) := by omega
          clear hd hp hp2 hn HD2 hbig hlt
          go_wp2_with fail
          go_ret2
          exact ⟨rfl, rfl⟩
end Go.Proofs.YtgjeihgkcmheeaaDoor
