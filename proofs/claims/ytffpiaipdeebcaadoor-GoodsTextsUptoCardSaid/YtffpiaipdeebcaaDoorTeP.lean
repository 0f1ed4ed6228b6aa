/- Texts of sets, with no program in sight: the parts of a set's text, what its numbers say. -/
import Derived.Test.YtffpiaipdeebcaaDoorTx
import Derived.Lib.SplitLaws
import Derived.Lib.AtoiAll
namespace Go.Proofs.YtffpiaipdeebcaaDoor
open Go.RowKit

/-! ### The parts of a joined text -/
theorem idx_none : ∀ {x : List UInt8}, (32 : UInt8) ∉ x → Lib.index x [32] = -1
  | [], _ => rfl
  | b :: l, h => by
    have h1 : ¬ (32 : UInt8) = b := fun e => h (by rw [e]; exact List.mem_cons_self ..)
    have h2 := idx_none (x := l) (fun e => h (List.mem_cons_of_mem _ e))
    have h3 : ([32] : List UInt8).isPrefixOf (b :: l) = false := by simp [List.isPrefixOf, h1]
    rw [Lib.index, h3, h2]
    rfl
theorem idx_here : ∀ {x t : List UInt8}, (32 : UInt8) ∉ x → Lib.index (x ++ 32 :: t) [32] = x.length
  | [], t, _ => by
    rw [List.nil_append, Lib.index]
    simp [List.isPrefixOf]
  | b :: l, t, h => by
    have h1 : ¬ (32 : UInt8) = b := fun e => h (by rw [e]; exact List.mem_cons_self ..)
    have h2 := idx_here (x := l) (t := t) (fun e => h (List.mem_cons_of_mem _ e))
    have h3 : ([32] : List UInt8).isPrefixOf (b :: (l ++ 32 :: t)) = false := by simp [List.isPrefixOf, h1]
    rw [List.cons_append, Lib.index, h3, h2]
    have h4 : ((l.length : Int) == -1) = false := by rw [beq_eq_false_iff_ne]; omega
    rw [h4]
    simp
theorem join_two (x y : List UInt8) (r : List (List UInt8)) : Lib.join (x :: y :: r) [32] = x ++ 32 :: Lib.join (y :: r) [32] := by
  rw [Lib.join_cons, Lib.join_cons]
  simp [Lib.joinTail]
theorem split_join : ∀ (xs : List (List UInt8)), xs ≠ [] → (∀ x ∈ xs, (32 : UInt8) ∉ x) → Lib.split (Lib.join xs [32]) [32] = xs
  | [], h, _ => absurd rfl h
  | [x], _, h => by
    rw [Lib.join_one]
    unfold Lib.split
    rw [Lib.count_miss (idx_none (h x (List.mem_cons_self ..)))]
    rfl
  | x :: y :: r, _, h => by
    have ih := split_join (y :: r) (by simp) (fun z hz => h z (List.mem_cons_of_mem _ hz))
    have hx := idx_here (t := Lib.join (y :: r) [32]) (h x (List.mem_cons_self ..))
    rw [join_two]
    unfold Lib.split at ih ⊢
    rw [Lib.count_hit (by simp) hx]
    have hd : (x ++ 32 :: Lib.join (y :: r) [32]).drop (x.length + ([32] : List UInt8).length) = Lib.join (y :: r) [32] := by
      rw [List.drop_append]
      simp
    rw [hd, Nat.add_comm 1, Lib.splitK, hx]
    have hm : ((x.length : Int) == -1) = false := by rw [beq_eq_false_iff_ne]; omega
    rw [hm]
    simp only [Bool.false_eq_true, ↓reduceIte, Nat.add_zero, Int.toNat_natCast]
    rw [hd, ih, List.take_left' rfl]

/-! ### Numerals of goods -/
theorem dig_low {i : Nat} (h : i < 10) : Lib.decDigits i = [UInt8.ofNat (48 + i)] := by rw [Lib.decDigits, dif_pos h]
theorem dig_high {i : Nat} (h : 10 ≤ i) (h2 : i < 32) : Lib.decDigits i = [UInt8.ofNat (48 + i / 10), UInt8.ofNat (48 + i % 10)] := by
  rw [Lib.decDigits, dif_neg (by omega), Lib.decDigits, dif_pos (by omega)]
  rfl
/-- The numeral of a good, written out. -/
def digs (i : Nat) : List UInt8 := if i < 10 then [UInt8.ofNat (48 + i)] else [UInt8.ofNat (48 + i / 10), UInt8.ofNat (48 + i % 10)]
theorem digs_eq {i : Nat} (h : i < 32) : Lib.decDigits i = digs i := by
  unfold digs
  split
  · rename_i h1; exact dig_low h1
  · rename_i h1; exact dig_high (by omega) h
theorem numL_digs {i : Nat} (h : i < 32) : (numL i).data.toList = digs i := by unfold numL; rw [digs_eq h]
theorem digs_clean : ∀ i, i < 32 → (32 : UInt8) ∉ digs i := by decide +kernel
theorem digs_atoi : ∀ i, i < 32 → Lib.atoiAll (digs i) = .ok (i : Int) := by decide +kernel
/-- What a part of a text says: a good, or none. -/
def partG (l : List UInt8) : Option Nat := match Lib.atoiAll l with | .ok v => if 0 ≤ v ∧ v < 32 then some v.toNat else none | _ => none
def orP (acc : Nat) (l : List UInt8) : Nat := match partG l with | some g => acc ||| 2 ^ g | none => acc
/-- The set that the parts of a text say. -/
def outG (t : List UInt8) : Nat := (Lib.split t [32]).foldl orP 0
theorem partG_digs {i : Nat} (h : i < 32) : partG (digs i) = some i := by
  unfold partG
  rw [digs_atoi i h]
  simp only
  rw [if_pos (by omega), Int.toNat_natCast]
theorem orP_lt {acc : Nat} (h : acc < 4294967296) (l : List UInt8) : orP acc l < 4294967296 := by
  unfold orP
  cases hp : partG l with
  | none => exact h
  | some g =>
    have hg : g < 32 := by
      unfold partG at hp
      split at hp
      · split at hp
        · injection hp with hp; omega
        · cases hp
      · cases hp
    simp only
    exact Nat.or_lt_two_pow (n := 32) h (Nat.pow_lt_pow_right (by decide) hg)
theorem outG_lt (t : List UInt8) : outG t < 4294967296 := by
  have key : ∀ (ps : List (List UInt8)) (acc : Nat), acc < 4294967296 → ps.foldl orP acc < 4294967296 := by
    intro ps
    induction ps with
    | nil => exact fun _ h => h
    | cons p ps ih => exact fun acc h => ih _ (orP_lt h p)
  exact key _ 0 (by decide)
/-- The bits that a list of goods sets. -/
def orN (acc : Nat) (L : List Nat) : Nat := L.foldl (fun a g => a ||| 2 ^ g) acc
theorem orN_bit : ∀ (L : List Nat) (acc j : Nat), (orN acc L).testBit j = (acc.testBit j || decide (j ∈ L))
  | [], acc, j => by simp [orN]
  | g :: L, acc, j => by
    have ih := orN_bit L (acc ||| 2 ^ g) j
    show (orN (acc ||| 2 ^ g) L).testBit j = _
    rw [ih, Nat.testBit_or, Nat.testBit_two_pow, Bool.or_assoc]
    congr 1
    by_cases h : g = j
    · subst h; simp
    · simp [h, Ne.symm h]
theorem orN_each {s : Nat} (hs : s < 4294967296) : orN 0 (eachL s) = s := by
  apply Nat.eq_of_testBit_eq
  intro j
  rw [orN_bit, Nat.zero_testBit, Bool.false_or]
  by_cases hj : s.testBit j = true
  · have hj32 : j < 32 := by
      rcases Nat.lt_or_ge j 32 with h | h
      · exact h
      · have := Nat.testBit_lt_two_pow (x := s) (i := j) (Nat.lt_of_lt_of_le hs (Nat.pow_le_pow_right (n := 2) (by decide) h))
        rw [hj] at this
        cases this
    rw [hj, decide_eq_true (mem_eachL.2 ⟨hj32, hj⟩)]
  · rw [Bool.not_eq_true] at hj
    rw [hj, decide_eq_false (fun h => by have := (mem_eachL.1 h).2; rw [hj] at this; cases this)]
theorem each_nil {s : Nat} (hs : s < 4294967296) (h : eachL s = []) : s = 0 := by rw [← orN_each hs, h]; rfl
theorem each_zero : eachL 0 = [] := by decide +kernel
/-- A set's text, written out. -/
theorem textG_list {s : Nat} (hs : s < 4294967296) (h0 : s ≠ 0) : (textG s).data.toList = Lib.join ((eachL s).map digs) [32] := by
  unfold textG
  rw [if_neg h0, List.map_map]
  show Lib.join _ _ = _
  congr 1
  exact List.map_congr_left (fun i hi => numL_digs (mem_eachL.1 hi).1)
theorem textG_zero : (textG 0).data.toList = [45] := rfl
/-- The parts of a set's text say that set. -/
theorem out_text {s : Nat} (hs : s < 4294967296) : outG (textG s).data.toList = s := by
  by_cases h0 : s = 0
  · subst h0
    rw [textG_zero]
    decide +kernel
  · rw [textG_list hs h0]
    unfold outG
    rw [split_join _ (fun e => h0 (each_nil hs (by simpa using e))) (fun x hx => by
      obtain ⟨i, hi, rfl⟩ := List.mem_map.1 hx
      exact digs_clean i (mem_eachL.1 hi).1)]
    have key : ∀ (L : List Nat) (acc : Nat), (∀ i ∈ L, i < 32) → (L.map digs).foldl orP acc = orN acc L := by
      intro L
      induction L with
      | nil => exact fun _ _ => rfl
      | cons g L ih =>
        intro acc h
        rw [List.map_cons, List.foldl_cons, ih _ (fun i hi => h i (List.mem_cons_of_mem _ hi))]
        show orN (orP acc (digs g)) L = orN (acc ||| 2 ^ g) L
        unfold orP
        rw [partG_digs (h g (List.mem_cons_self ..))]
    rw [key _ 0 (fun i hi => (mem_eachL.1 hi).1), orN_each hs]
/-- What goods.Parse answers. -/
def parseG (t : ByteArray) : Nat × Int := if textG (outG t.data.toList) = t then (outG t.data.toList, 0) else (0, 171)

/-! ### The document's reading, byte by byte -/
structure ScanS where
  n : Nat
  any : Bool
  l : List Nat
def scanB (st : ScanS) (b : UInt8) : ScanS :=
  if 48 ≤ b.toNat ∧ b.toNat ≤ 57 ∧ st.n < 100 then ⟨10 * st.n + (b.toNat - 48), true, st.l⟩
  else ⟨0, false, if st.any = true ∧ st.n < 32 then st.l ++ [st.n] else st.l⟩
def scanE (st : ScanS) : List Nat := if st.any = true ∧ st.n < 32 then st.l ++ [st.n] else st.l
def readL (t : List UInt8) : List Nat := scanE (t.foldl scanB ⟨0, false, []⟩)
theorem scan_digs : ∀ i, i < 32 → ((digs i).foldl scanB ⟨0, false, []⟩).n = i ∧ ((digs i).foldl scanB ⟨0, false, []⟩).any = true ∧ ((digs i).foldl scanB ⟨0, false, []⟩).l = [] := by decide +kernel
theorem scan_list : ∀ (ds : List UInt8) (n : Nat) (any : Bool) (l : List Nat), (∀ b ∈ ds, 48 ≤ b.toNat ∧ b.toNat ≤ 57) → ds.length ≤ 2 → n = 0 → ds.foldl scanB ⟨n, any, l⟩ = ⟨(ds.foldl scanB ⟨n, any, []⟩).n, (ds.foldl scanB ⟨n, any, []⟩).any, l⟩
  | [], n, any, l, _, _, _ => rfl
  | [a], n, any, l, h, _, hn => by
    have h1 := h a (List.mem_cons_self ..)
    subst hn
    simp [scanB, h1]
  | [a, b], n, any, l, h, _, hn => by
    have h1 := h a (List.mem_cons_self ..)
    have h2 := h b (List.mem_cons_of_mem _ (List.mem_cons_self ..))
    subst hn
    have h3 : a.toNat - 48 < 100 := by omega
    simp [scanB, h1, h2, h3]
  | a :: b :: c :: r, _, _, _, _, h, _ => by simp at h
theorem digs_bytes : ∀ i, i < 32 → (∀ b ∈ digs i, 48 ≤ b.toNat ∧ b.toNat ≤ 57) ∧ (digs i).length ≤ 2 := by decide +kernel
theorem scan_num {i : Nat} (h : i < 32) (any : Bool) (l : List Nat) (ha : any = false) : (digs i).foldl scanB ⟨0, any, l⟩ = ⟨i, true, l⟩ := by
  subst ha
  obtain ⟨h1, h2⟩ := digs_bytes i h
  obtain ⟨h3, h4, h5⟩ := scan_digs i h
  rw [scan_list _ 0 false l h1 h2 rfl, h3, h4]
theorem scan_join : ∀ (L : List Nat) (l : List Nat), L ≠ [] → (∀ i ∈ L, i < 32) → scanE ((Lib.join (L.map digs) [32]).foldl scanB ⟨0, false, l⟩) = l ++ L
  | [], _, h, _ => absurd rfl h
  | [g], l, _, h => by
    rw [List.map_cons, List.map_nil, Lib.join_one, scan_num (h g (List.mem_cons_self ..)) _ _ rfl]
    have := h g (List.mem_cons_self ..)
    simp [scanE, this]
  | g :: k :: L, l, _, h => by
    have hg := h g (List.mem_cons_self ..)
    rw [List.map_cons, List.map_cons, join_two, List.foldl_append, scan_num hg _ _ rfl, List.foldl_cons]
    have e : scanB ⟨g, true, l⟩ 32 = ⟨0, false, l ++ [g]⟩ := by simp [scanB, hg]
    rw [e, ← List.map_cons, scan_join (k :: L) (l ++ [g]) (by simp) (fun i hi => h i (List.mem_cons_of_mem _ hi))]
    simp
theorem read_text {s : Nat} (hs : s < 4294967296) : readL (textG s).data.toList = eachL s := by
  by_cases h0 : s = 0
  · subst h0
    rw [textG_zero, each_zero]
    rfl
  · rw [textG_list hs h0]
    unfold readL
    rw [scan_join _ _ (fun e => h0 (each_nil hs e)) (fun i hi => (mem_eachL.1 hi).1), List.nil_append]
/-- The set that the document reads. -/
def refG (t : List UInt8) : Nat := (ofG ((readL t).map Int.ofNat)).1
def refParse (t : ByteArray) : Nat × Int := if 200 < t.size then (0, 171) else if textG (refG t.data.toList) = t then (refG t.data.toList, 0) else (0, 171)
end Go.Proofs.YtffpiaipdeebcaaDoor
