/- Prices bound: plain. -/
import Derived.Test.YtinkieogcpidkaaDoorPriW
import Derived.Test.YtinkieogcpidkaaDoorScanP
namespace Go.Proofs.YtinkieogcpidkaaDoor
open Go.RowKit Go.Maps Go.Shelf

/-- Prices that may be. -/
def OkC (cnt : Nat → Int) : Prop := ∀ j, 0 ≤ cnt j ∧ cnt j ≤ 1099511627776
/-- What a set costs, without an end of the numbers. -/
def costS (cnt : Nat → Int) (g : Nat) : Nat → Int
  | 0 => 0
  | i + 1 => costS cnt g i + if g.testBit i = true then cnt i else 0
theorem costS_bd {cnt : Nat → Int} (h : OkC cnt) (g : Nat) : ∀ i, 0 ≤ costS cnt g i ∧ costS cnt g i ≤ i * 1099511627776
  | 0 => by simp [costS]
  | i + 1 => by
    have h1 := costS_bd h g i
    have h2 := h i
    simp only [costS]
    rw [show ((i + 1 : Nat) : Int) * 1099511627776 = i * 1099511627776 + 1099511627776 by omega]
    split <;> omega
theorem costN_S {cnt : Nat → Int} (h : OkC cnt) (g : Nat) : ∀ i, i ≤ 32 → costN cnt g i = costS cnt g i
  | 0, _ => rfl
  | i + 1, hi => by
    have h1 := costS_bd h g i
    have h2 := h i
    have h3 := costN_S h g i (by omega)
    simp only [costN, costS, addW]
    rw [h3]
    split
    · exact Go.IntWalk.i64_in _ (by omega)
    · rw [Int.add_zero]
abbrev cS (cnt : Nat → Int) (g : Nat) : Int := costS cnt g 32
theorem cost_S {cnt : Nat → Int} (h : OkC cnt) {g : Nat} (hg : g < 4294967296) : costC cnt g = cS cnt g := by rw [cost_eq hg, costN_S h g 32 (by omega)]
theorem cS_bd {cnt : Nat → Int} (h : OkC cnt) (g : Nat) : 0 ≤ cS cnt g ∧ cS cnt g ≤ 35184372088832 := by
  have := costS_bd h g 32
  simp only [cS]
  omega
theorem costS_mono {cnt : Nat → Int} (h : OkC cnt) {a b : Nat} (hs : ∀ i, a.testBit i = true → b.testBit i = true) : ∀ i, costS cnt a i ≤ costS cnt b i
  | 0 => Int.le_refl _
  | i + 1 => by
    have h1 := costS_mono h hs i
    have h2 := h i
    simp only [costS]
    by_cases ha : a.testBit i = true
    · rw [if_pos ha, if_pos (hs i ha)]
      omega
    · rw [if_neg ha]
      split <;> omega
/-- Sets that are apart cost no more than what they lie in. -/
theorem cost_apart {cnt : Nat → Int} (h : OkC cnt) {all : Nat} (gs : List Nat) (hc : ∀ i, i < 32 → cntAt gs i ≤ 1) (hin : ∀ g ∈ gs, ∀ i, g.testBit i = true → all.testBit i = true) : ∀ i, i ≤ 32 → (gs.map fun g => costS cnt g i).sum ≤ costS cnt all i
  | 0, _ => by
    have : ∀ gs : List Nat, (gs.map fun g => costS cnt g 0).sum = 0 := by
      intro gs
      induction gs with
      | nil => rfl
      | cons g gs ih => rw [List.map_cons, List.sum_cons, ih]; rfl
    rw [this]
    exact Int.le_refl _
  | i + 1, hi => by
    have h1 := cost_apart h gs hc hin i (by omega)
    have h2 := h i
    have key : ∀ gs : List Nat, (gs.map fun g => costS cnt g (i + 1)).sum = (gs.map fun g => costS cnt g i).sum + (cntAt gs i : Int) * cnt i := by
      intro gs
      induction gs with
      | nil => simp [cntAt]
      | cons g gs ih =>
        have e : (cntAt (g :: gs) i : Int) = (if g.testBit i = true then 1 else 0) + cntAt gs i := by
          unfold cntAt
          rw [List.filter_cons]
          split
          · rename_i hg; simp; omega
          · rename_i hg; simp
        rw [List.map_cons, List.sum_cons, ih, List.map_cons, List.sum_cons, e]
        simp only [costS]
        split
        · rw [Int.add_mul]; omega
        · rw [Int.zero_add]; omega
    rw [key]
    have hci := hc i (by omega)
    simp only [costS]
    rcases Nat.eq_zero_or_pos (cntAt gs i) with h0 | h0
    · rw [h0]
      split
      · simp; omega
      · simp; omega
    · have h3 : cntAt gs i = 1 := by omega
      have hb : all.testBit i = true := by
        unfold cntAt at h0
        obtain ⟨g, hg⟩ := List.exists_mem_of_length_pos h0
        rw [List.mem_filter] at hg
        exact hin g hg.1 i hg.2
      rw [h3, if_pos hb]
      simp
      omega

/-- Offers that may be, within a set. -/
def OkL (l : List Offer) : Prop := ∀ o ∈ l, o.1 < 4294967296 ∧ 1 ≤ o.2 ∧ o.2 ≤ 1099511627776
theorem gainK_says {cnt : Nat → Int} (h : OkC cnt) {free : Nat} {l : List Offer} (hl : OkL l) : ∀ k, k ≤ l.length →
    0 ≤ (gainK cnt free l k).1 ∧ (gainK cnt free l k).1 ≤ 1099511627776 ∧ (∀ j o, j < k → l[j]? = some o → withinB o.1 free = true → o.2 - cS cnt o.1 ≤ (gainK cnt free l k).1) ∧
      ((gainK cnt free l k).1 = 0 ∨ ∃ o ∈ l, withinB o.1 free = true ∧ (gainK cnt free l k).1 = o.2 - cS cnt o.1)
  | 0, _ => ⟨Int.le_refl _, (by simp [gainK]), fun j o hj => absurd hj (by omega), .inl rfl⟩
  | k + 1, hk => by
    obtain ⟨h1, h2, h3, h4⟩ := gainK_says h hl k (by omega) (free := free)
    obtain ⟨o, ho⟩ : ∃ o, l[k]? = some o := ⟨l[k], List.getElem?_eq_getElem (by omega)⟩
    have hm := List.mem_of_getElem? ho
    obtain ⟨o1, o2, o3⟩ := hl o hm
    have hb := cS_bd h o.1
    have hw : IntKind.i64.wrap (o.2 - costC cnt o.1) = o.2 - cS cnt o.1 := by rw [cost_S h o1]; exact Go.IntWalk.i64_in _ (by omega)
    by_cases hx : withinB o.1 free = true ∧ (gainK cnt free l k).1 < o.2 - cS cnt o.1
    · rw [gain_hit ho hx.1 (by rw [hw]; exact hx.2), hw]
      refine ⟨by simp only; omega, by simp only; omega, fun j x hj hxj hxw => ?_, .inr ⟨o, hm, hx.1, rfl⟩⟩
      rcases Nat.lt_or_ge j k with hj2 | hj2
      · have := h3 j x hj2 hxj hxw
        simp only
        omega
      · obtain rfl : j = k := by omega
        rw [ho] at hxj
        cases hxj
        exact Int.le_refl _
    · rw [gain_miss ho (by rw [hw]; exact hx)]
      refine ⟨h1, h2, fun j x hj hxj hxw => ?_, h4⟩
      rcases Nat.lt_or_ge j k with hj2 | hj2
      · exact h3 j x hj2 hxj hxw
      · obtain rfl : j = k := by omega
        rw [ho] at hxj
        cases hxj
        have : ¬ (gainK cnt free l j).1 < o.2 - cS cnt o.1 := fun e => hx ⟨hxw, e⟩
        omega
theorem gain_bd {cnt : Nat → Int} (h : OkC cnt) {free : Nat} {l : List Offer} (hl : OkL l) : 0 ≤ (gainC cnt free l).1 ∧ (gainC cnt free l).1 ≤ 1099511627776 :=
  ⟨(gainK_says h hl _ (Nat.le_refl _)).1, (gainK_says h hl _ (Nat.le_refl _)).2.1⟩
theorem gain_ge {cnt : Nat → Int} (h : OkC cnt) {free : Nat} {l : List Offer} (hl : OkL l) {o : Offer} (ho : o ∈ l) (hw : withinB o.1 free = true) : o.2 - cS cnt o.1 ≤ (gainC cnt free l).1 := by
  obtain ⟨i, hi, rfl⟩ := List.getElem_of_mem ho
  exact (gainK_says h hl _ (Nat.le_refl _)).2.2.1 i _ hi (List.getElem?_eq_getElem hi) hw
theorem gain_is {cnt : Nat → Int} (h : OkC cnt) {free : Nat} {l : List Offer} (hl : OkL l) : (gainC cnt free l).1 = 0 ∨ ∃ o ∈ l, withinB o.1 free = true ∧ (gainC cnt free l).1 = o.2 - cS cnt o.1 := (gainK_says h hl _ (Nat.le_refl _)).2.2.2
theorem gain_mono {cnt : Nat → Int} (h : OkC cnt) {a b : Nat} {l : List Offer} (hl : OkL l) (hs : ∀ o ∈ l, withinB o.1 a = true → withinB o.1 b = true) : (gainC cnt a l).1 ≤ (gainC cnt b l).1 := by
  rcases gain_is h hl (free := a) with e | ⟨o, ho, hw, e⟩
  · rw [e]
    exact (gain_bd h hl).1
  · rw [e]
    exact gain_ge h hl ho (hs o ho hw)

/-- A part's bound, without an end of the numbers. -/
def gainS (cnt : Nat → Int) (free : Nat) (ls : List (List Offer)) : Int := (ls.map fun l => (gainC cnt free l).1).sum
theorem gainS_bd {cnt : Nat → Int} (h : OkC cnt) {free : Nat} : ∀ {ls : List (List Offer)}, (∀ l ∈ ls, OkL l) → 0 ≤ gainS cnt free ls ∧ gainS cnt free ls ≤ ls.length * 1099511627776
  | [], _ => by simp [gainS]
  | l :: ls, hl => by
    have h1 := gainS_bd h (free := free) (ls := ls) (fun x hx => hl x (List.mem_cons_of_mem _ hx))
    have h2 := gain_bd h (free := free) (hl l List.mem_cons_self)
    have e : gainS cnt free (l :: ls) = (gainC cnt free l).1 + gainS cnt free ls := rfl
    rw [e, List.length_cons, show ((ls.length + 1 : Nat) : Int) * 1099511627776 = ls.length * 1099511627776 + 1099511627776 by omega]
    omega
theorem restK_S {cnt : Nat → Int} (h : OkC cnt) {free : Nat} (hf : free < 4294967296) {ls : List (List Offer)} (hl : ∀ l ∈ ls, OkL l) (h32 : ls.length ≤ 32) (k : Nat) : ∀ n, k + n ≤ ls.length → restK cnt free ls k n = cS cnt free + gainS cnt free ((ls.drop k).take n)
  | 0, _ => by simp [restK, gainS, cost_S h hf]
  | n + 1, hn => by
    obtain ⟨l, hx⟩ : ∃ l, ls[k + n]? = some l := ⟨ls[k + n], List.getElem?_eq_getElem (by omega)⟩
    have h1 := restK_S h hf hl h32 k n (by omega)
    rw [rest_some hx, h1]
    have e : (ls.drop k).take (n + 1) = (ls.drop k).take n ++ [l] := by
      rw [List.take_add_one, List.getElem?_drop, hx]
      rfl
    have h2 := gainS_bd h (free := free) (ls := (ls.drop k).take n) (fun x hx' => hl x (List.mem_of_mem_drop (List.mem_of_mem_take hx')))
    have h3 := gain_bd h (free := free) (hl l (List.mem_of_getElem? hx))
    have h4 := cS_bd h free
    have h5 : ((ls.drop k).take n).length ≤ 32 := by rw [List.length_take, List.length_drop]; omega
    have e2 : gainS cnt free ((ls.drop k).take n ++ [l]) = gainS cnt free ((ls.drop k).take n) + (gainC cnt free l).1 := by simp [gainS]
    rw [e, e2]
    rw [Go.IntWalk.i64_in _ (by omega)]
    omega
theorem rest_S {cnt : Nat → Int} (h : OkC cnt) {free : Nat} (hf : free < 4294967296) {ls : List (List Offer)} (hl : ∀ l ∈ ls, OkL l) (h32 : ls.length ≤ 32) {k : Nat} (hk : k ≤ ls.length) : restC cnt free ls k = cS cnt free + gainS cnt free (ls.drop k) := by
  unfold restC
  rw [restK_S h hf hl h32 k _ (by omega), List.take_of_length_le (by rw [List.length_drop]; omega)]
theorem gainS_mono {cnt : Nat → Int} (h : OkC cnt) {a b : Nat} : ∀ {ls : List (List Offer)}, (∀ l ∈ ls, OkL l) → (∀ l ∈ ls, ∀ o ∈ l, withinB o.1 a = true → withinB o.1 b = true) → gainS cnt a ls ≤ gainS cnt b ls
  | [], _, _ => Int.le_refl _
  | l :: ls, hl, hs => by
    have h1 := gainS_mono h (a := a) (b := b) (ls := ls) (fun x hx => hl x (List.mem_cons_of_mem _ hx)) (fun x hx => hs x (List.mem_cons_of_mem _ hx))
    have h2 := gain_mono h (hl l List.mem_cons_self) (hs l List.mem_cons_self)
    have e : ∀ f, gainS cnt f (l :: ls) = (gainC cnt f l).1 + gainS cnt f ls := fun _ => rfl
    rw [e, e]
    omega
/-- A part's bound is not above its whole's. -/
theorem rest_next {cnt : Nat → Int} (h : OkC cnt) {free : Nat} (hf : free < 4294967296) {ls : List (List Offer)} (hl : ∀ l ∈ ls, OkL l) (h32 : ls.length ≤ 32) {k : Nat} (hk : k < ls.length) : restC cnt free ls (k + 1) ≤ restC cnt free ls k := by
  rw [rest_S h hf hl h32 (by omega), rest_S h hf hl h32 (by omega), List.drop_eq_getElem_cons hk]
  have h3 := gain_bd h (free := free) (hl _ (List.getElem_mem hk))
  have e : gainS cnt free (ls[k] :: ls.drop (k + 1)) = (gainC cnt free ls[k]).1 + gainS cnt free (ls.drop (k + 1)) := rfl
  rw [e]
  omega
theorem rest_less {cnt : Nat → Int} (h : OkC cnt) {a b : Nat} (ha : a < 4294967296) (hb : b < 4294967296) (hs : ∀ i, a.testBit i = true → b.testBit i = true) {ls : List (List Offer)} (hl : ∀ l ∈ ls, OkL l) (h32 : ls.length ≤ 32) : restC cnt a ls 0 ≤ restC cnt b ls 0 := by
  rw [rest_S h ha hl h32 (Nat.zero_le _), rest_S h hb hl h32 (Nat.zero_le _)]
  have h1 := costS_mono h hs 32
  have h2 := gainS_mono h (a := a) (b := b) (ls := ls.drop 0) (fun x hx => hl x (List.mem_of_mem_drop hx)) (fun l hl' o ho hw => by
    have ho1 := (hl l (List.mem_of_mem_drop hl') o ho).1
    exact (withinB_iff _ _ ho1 hb).2 (fun i hi => hs i ((withinB_iff _ _ ho1 ha).1 hw i hi)))
  simp only [cS]
  omega

/-- THE THEOREM: no choice that may be is worth more than the bound. -/
theorem choice_le {cnt : Nat → Int} (h : OkC cnt) {all : Nat} : ∀ {ls : List (List Offer)} {zs : List Int}, (∀ l ∈ ls, OkL l ∧ ∀ o ∈ l, withinB o.1 all = true) → zs.length = ls.length → (List.zipWith okZ ls zs).all id = true →
    ((outL ls zs).map (·.2)).sum ≤ gainS cnt all ls + (((outL ls zs).map Prod.fst).map fun g => costS cnt g 32).sum
  | [], _, _, _, _ => by simp [outL, gainS]
  | l :: ls, [], _, hz, _ => by simp at hz
  | l :: ls, z :: zs, hl, hz, hok => by
    simp only [List.zipWith_cons_cons, List.all_cons, Bool.and_eq_true, id] at hok
    have h1 := choice_le h (all := all) (ls := ls) (zs := zs) (fun x hx => hl x (List.mem_cons_of_mem _ hx)) (by simpa using hz) hok.2
    obtain ⟨hl1, hl2⟩ := hl l List.mem_cons_self
    have e : gainS cnt all (l :: ls) = (gainC cnt all l).1 + gainS cnt all ls := rfl
    have e2 : outL (l :: ls) (z :: zs) = pickO l z :: outL ls zs := rfl
    rw [e, e2]
    simp only [List.map_cons, List.sum_cons]
    have hp : (pickO l z).2 - cS cnt (pickO l z).1 ≤ (gainC cnt all l).1 := by
      have hb := gain_bd h (free := all) hl1
      unfold okZ at hok
      have hz1 := hok.1
      rw [Bool.and_eq_true, decide_eq_true_eq, decide_eq_true_eq] at hz1
      unfold pickO
      split
      · rename_i h0
        have hi : z.toNat < l.length := by omega
        rw [List.getElem?_eq_getElem hi]
        exact gain_ge h hl1 (List.getElem_mem hi) (hl2 _ (List.getElem_mem hi))
      · have := cS_bd h 0
        simp only [Int.zero_sub]
        omega
    simp only [cS] at hp
    omega
theorem sumC_eq (l : List Offer) : sumC l = (l.map (·.2)).sum := by
  have : ∀ (l : List Offer) (s : Int), l.foldl (fun s o => s + o.2) s = s + (l.map (·.2)).sum := by
    intro l
    induction l with
    | nil => intro s; simp
    | cons o l ih => intro s; rw [List.foldl_cons, ih, List.map_cons, List.sum_cons]; omega
  unfold sumC
  rw [this]
  omega

/-- An instance that may be. -/
structure OkI (n : Int) (ls : List (List Offer)) : Prop where
  nb : 1 ≤ n ∧ n ≤ 10
  len : ls.length ≤ 32
  row : ∀ l ∈ ls, OkL l ∧ ∀ o ∈ l, withinB o.1 (allG n.toNat) = true
  all : allG n.toNat < 4294967296
theorem okI_of {n : Int} {ls : List (List Offer)} (hw : BWide ls) (h : instE n ls = 0) : OkI n ls := by
  obtain ⟨h1, h2, h3⟩ := instE_ok.1 h
  refine ⟨by omega, h2, fun l hl => ?_, allG_lt _ (by omega)⟩
  obtain ⟨_, h4⟩ := h3 l hl
  have key : ∀ o ∈ l, withinB o.1 (allG n.toNat) = true ∧ 1 ≤ o.2 ∧ o.2 ≤ 1099511627776 := fun o ho => by
    have := h4 o ho
    unfold badO at this
    simp only [Bool.or_eq_false_iff, Bool.not_eq_false', decide_eq_false_iff_not] at this
    exact ⟨this.1.1.2, by omega, by omega⟩
  exact ⟨fun o ho => ⟨(hw l hl o ho).1, (key o ho).2⟩, fun o ho => (key o ho).1⟩
theorem worth_le {n : Int} {ls : List (List Offer)} (hi : OkI n ls) {cnt : Nat → Int} (h : OkC cnt) {zs : List Int} (hz : choiceE n ls zs = 0) (h0 : instE n ls = 0) : choiceC n ls zs ≤ restC cnt (allG n.toNat) ls 0 := by
  unfold choiceE at hz
  rw [if_neg (by rw [h0]; simp)] at hz
  unfold choiceC
  rw [if_neg (by rw [h0]; simp)]
  unfold worthC
  rw [if_neg (by rw [hz]; simp)]
  unfold chE at hz
  split at hz
  · cases hz
  · next hlen =>
    split at hz
    · cases hz
    · next hok =>
      split at hz
      · next hap =>
        rw [sumC_eq, rest_S h hi.all (fun l hl => (hi.row l hl).1) hi.len (Nat.zero_le _), List.drop_zero]
        have h1 := choice_le h hi.row (by simpa using hlen) (by simpa using hok)
        have h2 := cost_apart h (all := allG n.toNat) ((outL ls zs).map Prod.fst) ((apart_iff _).1 hap) (fun g hg i hgi => by
          obtain ⟨o, ho, rfl⟩ := List.mem_map.1 hg
          unfold outL at ho
          obtain ⟨j, hj⟩ := List.getElem?_of_mem ho
          rw [List.getElem?_zipWith] at hj
          cases e1 : ls[j]? with
          | none => rw [e1] at hj; simp at hj
          | some l =>
            cases e2 : zs[j]? with
            | none => rw [e1, e2] at hj; simp at hj
            | some z =>
              rw [e1, e2] at hj
              simp only [Option.some.injEq] at hj
              subst hj
              unfold pickO at hgi
              split at hgi
              · cases e3 : l[z.toNat]? with
                | none => rw [e3] at hgi; simp at hgi
                | some o =>
                  rw [e3] at hgi
                  have hm := List.mem_of_getElem? e3
                  obtain ⟨r1, r2⟩ := hi.row l (List.mem_of_getElem? e1)
                  exact (withinB_iff _ _ (r1 o hm).1 hi.all).1 (r2 o hm) i hgi
              · simp at hgi) 32 (Nat.le_refl _)
        simp only [cS]
        omega
      · cases hz
/-- Prices of nothing: what is gained is the greatest. -/
theorem okC_zero : OkC (fun _ => 0) := fun _ => ⟨Int.le_refl _, by show (0 : Int) ≤ _; decide⟩
theorem cS_zero (g : Nat) : cS (fun _ => 0) g = 0 := by
  have : ∀ i, costS (fun _ => 0) g i = 0 := by
    intro i
    induction i with
    | zero => rfl
    | succ i ih => simp only [costS]; rw [ih]; split <;> rfl
  exact this 32
theorem gain_great {all : Nat} {l : List Offer} (hl : OkL l) (hw : ∀ o ∈ l, withinB o.1 all = true) : (gainC (fun _ => 0) all l).1 = (greatL l).1 := by
  obtain ⟨h1, h2, h3, _⟩ := scan_says (p := fun _ => true) l 0 0 (-1)
  have g1 := gain_bd okC_zero (free := all) hl
  have a1 : (gainC (fun _ => 0) all l).1 ≤ (greatL l).1 := by
    rcases gain_is okC_zero hl (free := all) with e | ⟨o, ho, _, e⟩
    · rw [e]; exact h1
    · rw [e, cS_zero]
      have := h2 o ho rfl
      unfold greatL
      omega
  have a2 : (greatL l).1 ≤ (gainC (fun _ => 0) all l).1 := by
    rcases h3 with e | ⟨o, ho, _, e⟩
    · unfold greatL
      rw [e]
      exact g1.1
    · unfold greatL
      rw [← e]
      have := gain_ge okC_zero hl ho (hw o ho)
      rw [cS_zero] at this
      omega
  omega
theorem rest_zero {n : Int} {ls : List (List Offer)} (hi : OkI n ls) : restC (fun _ => 0) (allG n.toNat) ls 0 = (ls.map fun l => (greatL l).1).sum := by
  rw [rest_S okC_zero hi.all (fun l hl => (hi.row l hl).1) hi.len (Nat.zero_le _), cS_zero, Int.zero_add, List.drop_zero]
  unfold gainS
  congr 1
  exact List.map_congr_left (fun l hl => gain_great (hi.row l hl).1 (hi.row l hl).2)
end Go.Proofs.YtinkieogcpidkaaDoor
