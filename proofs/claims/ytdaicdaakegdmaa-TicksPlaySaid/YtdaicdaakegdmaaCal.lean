/- A calendar in memory: what ticks.Ticks and its row hold. -/
import Derived.Test.YtdaicdaakegdmaaRows
import Derived.Test.YtdaicdaakegdmaaHpQ
import Derived.Test.YtdaicdaakegdmaaUntil
import Derived.Test.YtdaicdaakegdmaaInQ
import Derived.Maps.Own
import Derived.Maps.OwnOps
import Derived.Maps.OwnSet
import Derived.Maps.Views
import Derived.Outline
import Derived.Laws.OwnMore
import Derived.OneCell
namespace Go.Proofs.Ytdaicdaakegdmaa
open Go.RowKit Go.Maps
open Go.ChangeMaps Go.WideMaps

/-- Only the blocks of S, and what is new, have turned. -/
structure Only (S : Nat → Prop) (w w' : World) : Prop where
  os : w'.os = w.os
  tape : w'.tape = w.tape
  output : w'.output = w.output
  size : w.heap.size ≤ w'.heap.size
  block : ∀ k, k < w.heap.size → ¬ S k → w'.heap[k]? = w.heap[k]?
theorem Only.refl (S : Nat → Prop) (w : World) : Only S w w := ⟨rfl, rfl, rfl, Nat.le_refl _, fun _ _ _ => rfl⟩
theorem Only.trans {S T : Nat → Prop} {a b c : World} (h : Only S a b) (k : Only T b c) (hT : ∀ i, i < a.heap.size → T i → S i) : Only S a c :=
  ⟨k.os.trans h.os, k.tape.trans h.tape, k.output.trans h.output, Nat.le_trans h.size k.size, fun i hi hn => (k.block i (Nat.lt_of_lt_of_le hi h.size) (fun t => hn (hT i hi t))).trans (h.block i hi hn)⟩
theorem Only.of_grown {S : Nat → Prop} {w w' : World} {row : Option Nat} (h : w.grownBy w' row) (hS : ∀ k, row = some k → S k) : Only S w w' :=
  ⟨h.os, h.tape, h.output, h.size, fun k hk hn => h.block k hk (fun e => hn (hS k e.symm))⟩
theorem Only.of_below {S : Nat → Prop} {w w' : World} (h : Below w.heap.size w w') : Only S w w' := ⟨h.os, h.tape, h.output, h.size, fun k hk _ => h.block k hk⟩
theorem Only.below {S : Nat → Prop} {w w' : World} {B : Nat} (h : Only S w w') (hB : B ≤ w.heap.size) (hS : ∀ k, S k → B ≤ k) : Below B w w' :=
  ⟨h.os, h.tape, h.output, h.size, fun k hk => h.block k (by omega) (fun s => by have := hS k s; omega)⟩
theorem Only.set {S : Nat → Prop} {w w' : World} (h : Only S w w') (x : Addr) (hx : S x.block) (v : Value) : Only S w (w'.setCell x v) :=
  ⟨h.os, h.tape, h.output, by simpa [World.setCell] using h.size, fun i hi hn => (Below.heap_setCell w' x v i (fun e => hn (e ▸ hx))).trans (h.block i hi hn)⟩

/-! ### a row of dues -/
def duV (d : Du) : Value := .agg #[.int .i64 d.1, .int .i64 d.2]
def flatD (l : List Du) : List Value := l.flatMap (fun d => [.int .i64 d.1, .int .i64 d.2])
theorem flatD_cons (d : Du) (l : List Du) : flatD (d :: l) = .int .i64 d.1 :: .int .i64 d.2 :: flatD l := rfl
theorem flatD_append (l m : List Du) : flatD (l ++ m) = flatD l ++ flatD m := by simp [flatD]
theorem flatD_length (l : List Du) : (flatD l).length = l.length * 2 := by
  induction l with
  | nil => rfl
  | cons d l ih => rw [flatD_cons, List.length_cons, List.length_cons, ih, List.length_cons]; omega
theorem flatD_at (l : List Du) : ∀ (i : Nat), i < l.length → (flatD l)[i * 2]? = some (.int .i64 (gD l i).1) ∧ (flatD l)[i * 2 + 1]? = some (.int .i64 (gD l i).2) := by
  induction l with
  | nil => intro i h; simp at h
  | cons d l ih =>
    intro i h
    rw [flatD_cons]
    cases i with
    | zero => exact ⟨rfl, rfl⟩
    | succ i =>
      have := ih i (by simpa using h)
      rw [show (i + 1) * 2 = i * 2 + 1 + 1 by omega]
      exact this
theorem flatD_set (l : List Du) (d : Du) : ∀ (i : Nat), flatD (l.set i d) = ((flatD l).set (i * 2) (.int .i64 d.1)).set (i * 2 + 1) (.int .i64 d.2) := by
  induction l with
  | nil => intro i; rfl
  | cons c l ih =>
    intro i
    cases i with
    | zero => rfl
    | succ i =>
      rw [List.set_cons_succ, flatD_cons, ih i, flatD_cons, show (i + 1) * 2 = i * 2 + 1 + 1 by omega]
      rfl
theorem flatD_take (l : List Du) (n : Nat) : flatD (l.take n) = (flatD l).take (n * 2) := by
  induction l generalizing n with
  | nil => simp [flatD]
  | cons d l ih =>
    cases n with
    | zero => rfl
    | succ n => rw [List.take_succ_cons, flatD_cons, ih, flatD_cons, show (n + 1) * 2 = n * 2 + 1 + 1 by omega]; rfl
theorem flatD_one (l : List Du) : ∀ u ∈ flatD l, u.oneCell' = true := by
  intro u hu
  obtain ⟨b, _, hb⟩ := List.mem_flatMap.1 hu
  simp at hb
  rcases hb with rfl | rfl <;> rfl
theorem infoD : EI Try.prog 30 (.agg #[.int .i64 0, .int .i64 0]) 2 16 := by unfold EI; kernel_rfl

/-! ### the map of a calendar -/
def TZ : DataW Unit := .lit (.int .i64 0)
structure MapF (f : Int → Option Nat) (D : DataW Unit) : Prop where
  has : ∀ k : Int, Maps.has D (.int .i64 k) = (f k).isSome
  at_ : ∀ (k : Int) (i : Nat), f k = some i → D.atKey (.int .i64 k) TZ = .lit (.int .i64 (i : Int))
theorem MapF.nil : MapF (posD []) (.map []) := ⟨fun s => by simp [Maps.has, posD], fun s i h => by simp [posD] at h⟩
theorem kl_ne {k j : Int} (h : k ≠ j) : (Lit.int .i64 k) ≠ .int .i64 j := fun e => h (by injection e)
theorem MapF.put {f : Int → Option Nat} {D : DataW Unit} (h : MapF f D) (hD : IsMap D) (k : Int) (i : Nat) : MapF (updP f k (some i)) (D.put (.int .i64 k) (.lit (.int .i64 (i : Int)))) := by
  refine ⟨fun j => ?_, fun j t ht => ?_⟩
  · unfold updP
    by_cases e : j = k
    · subst e; rw [has_put_same hD (by trivial), if_pos rfl]; rfl
    · rw [has_put_other (kl_ne e), h.has, if_neg e]
  · unfold updP at ht
    by_cases e : j = k
    · subst e; rw [if_pos rfl] at ht; injection ht with ht; subst ht; rw [atKey_put_same hD (by trivial)]
    · rw [if_neg e] at ht; rw [atKey_put_other (kl_ne e)]; exact h.at_ j t ht
theorem MapF.del {f : Int → Option Nat} {D : DataW Unit} (h : MapF f D) (k : Int) : MapF (updP f k none) (D.del (.int .i64 k)) := by
  refine ⟨fun j => ?_, fun j t ht => ?_⟩
  · unfold updP
    by_cases e : j = k
    · subst e; rw [has_del_same, if_pos rfl]; rfl
    · rw [has_del_other (kl_ne e), h.has, if_neg e]
  · unfold updP at ht
    by_cases e : j = k
    · subst e; rw [if_pos rfl] at ht; cases ht
    · rw [if_neg e] at ht; rw [atKey_del_other (kl_ne e)]; exact h.at_ j t ht
/-- Block m is a map with n entries that tells the places f. -/
def MapW (w : World) (m : Nat) (f : Int → Option Nat) (n : Nat) : Prop := ∃ D, w.ownsMap Try.prog 2 (plainElem Try.prog 3) m n D ∧ MapF f D ∧ Maps.size D = n
theorem law2 : Keyed Try.prog 2 := int_keyed Try.underlying2
theorem zero3 (w : World) : (zeroValue 3).run Try.prog w = .ok (.int .i64 0) w := by kernel_rfl
theorem ownsMap_tight {w : World} {m n : Nat} {D : DataW Unit} (h : w.ownsMap Try.prog 2 (plainElem Try.prog 3) m n D) : w.ownsMap Try.prog 2 (plainElem Try.prog 3) m (Maps.size D) D := by
  obtain ⟨es, clock, hb, F, hs, rfl⟩ := h
  refine ⟨es, clock, hb, F, ?_, rfl⟩
  simp [Maps.size, length_sorted]
theorem MapW.keep {w w' : World} {m n : Nat} {f : Int → Option Nat} {row : Option Nat} (h : MapW w m f n) (hg : w.grownBy w' row) (hne : row ≠ some m) : MapW w' m f n := by
  obtain ⟨D, h1, h2, h3⟩ := h
  exact ⟨D, h1.kept hg (Ne.symm hne), h2, h3⟩
theorem MapW.lt {w : World} {m n : Nat} {f : Int → Option Nat} (h : MapW w m f n) : m < w.heap.size := by
  obtain ⟨D, h1, _, _⟩ := h
  exact h1.lt
theorem MapW.block {w : World} {m n : Nat} {f : Int → Option Nat} (h : MapW w m f n) : ∃ es clock, w.heap[m]? = some (.map es clock) := by
  obtain ⟨D, ⟨es, clock, hb, _⟩, _, _⟩ := h
  exact ⟨es, clock, hb⟩

/-! ### a calendar -/
/-- A calendar whose map tells the places f (n of them). -/
structure CalF (w : World) (B p r x m : Nat) (v : Value) (now : Int) (l : List Du) (f : Int → Option Nat) (n : Nat) : Prop where
  tk : w.heap[p]? = some (.cells #[.int .i64 now, .pointer (some ⟨r, 0, none⟩), .map (some m)] 68 (0, 0))
  rw_ : w.heap[r]? = some (.cells #[v, .func (.func 45) #[] #[.pointer (some ⟨x, 0, none⟩)]] 75 (0, 0))
  box : w.heap[x]? = some (.cells #[.pointer (some ⟨p, 0, none⟩)] 24 (0, 0))
  row : w.ownsRow B 30 2 v l.length (flatD l)
  map : MapW w m f n
  base : B ≤ p ∧ B ≤ r ∧ B ≤ x ∧ B ≤ m
  nod : (l.map (·.2)).Nodup
  len : l.length ≤ 1000000
  ok : ∀ d ∈ l, (0 ≤ d.1 ∧ d.1 ≤ 1099511627776) ∧ 0 ≤ d.2 ∧ d.2 ≤ 9223372036854775807
/-- A calendar at rest. -/
def Cal (w : World) (B p r x m : Nat) (v : Value) (now : Int) (l : List Du) : Prop := CalF w B p r x m v now l (posD l) l.length
/-- What a call on a calendar may turn. -/
def Foot (p r m : Nat) (v : Value) (k : Nat) : Prop := k = p ∨ k = r ∨ k = m ∨ v.ownBlock = some k

section
variable {w w' : World} {B p r x m n : Nat} {v : Value} {now : Int} {l : List Du} {f : Int → Option Nat}
theorem CalF.rows (h : CalF w B p r x m v now l f n) : v.ownBlock ≠ some p ∧ v.ownBlock ≠ some r ∧ v.ownBlock ≠ some x ∧ v.ownBlock ≠ some m := by
  obtain ⟨es, clock, hm⟩ := h.map.block
  exact ⟨own_ne h.row h.tk (fun cur e => by injection e with _ e _; exact absurd e (by decide)), own_ne h.row h.rw_ (fun cur e => by injection e with _ e _; exact absurd e (by decide)), own_ne h.row h.box (fun cur e => by injection e with _ e _; exact absurd e (by decide)), own_ne h.row hm (fun cur e => by simp at e)⟩
theorem CalF.apart (h : CalF w B p r x m v now l f n) : p ≠ r ∧ p ≠ x ∧ p ≠ m ∧ r ≠ x ∧ r ≠ m ∧ x ≠ m := by
  obtain ⟨es, clock, hm⟩ := h.map.block
  have h1 := h.tk
  have h2 := h.rw_
  have h3 := h.box
  refine ⟨?_, ?_, ?_, ?_, ?_, ?_⟩ <;> (intro e; subst e)
  · rw [h1] at h2; injection h2 with h2; injection h2 with _ h2 _; exact absurd h2 (by decide)
  · rw [h1] at h3; injection h3 with h3; injection h3 with _ h3 _; exact absurd h3 (by decide)
  · rw [h1] at hm; injection hm with hm; cases hm
  · rw [h2] at h3; injection h3 with h3; injection h3 with _ h3 _; exact absurd h3 (by decide)
  · rw [h2] at hm; injection hm with hm; cases hm
  · rw [h3] at hm; injection hm with hm; cases hm
/-- What else turns leaves a calendar as it is. -/
theorem CalF.keep {row : Option Nat} (h : CalF w B p r x m v now l f n) (hg : w.grownBy w' row) (hr : ∀ k, row = some k → k ≠ p ∧ k ≠ r ∧ k ≠ x ∧ k ≠ m ∧ v.ownBlock ≠ some k) : CalF w' B p r x m v now l f n := by
  have key : ∀ {k : Nat} {o : Obj}, row ≠ some k → w.heap[k]? = some o → w'.heap[k]? = some o := fun hk ho => (hg.block _ (lt_of_block ho) (Ne.symm hk)).trans ho
  refine ⟨key (fun e => (hr _ e).1 rfl) h.tk, key (fun e => (hr _ e).2.1 rfl) h.rw_, key (fun e => (hr _ e).2.2.1 rfl) h.box, own_far h.row hg ?_, h.map.keep hg (fun e => (hr _ e).2.2.2.1 rfl), h.base, h.nod, h.len, h.ok⟩
  cases hv : v.ownBlock with
  | none => exact .inr rfl
  | some g => exact .inl (fun e => (hr g e.symm).2.2.2.2 hv)
theorem CalF.below (h : CalF w B p r x m v now l f n) (hb : Below w.heap.size w w') : CalF w' B p r x m v now l f n :=
  h.keep (row := none) ⟨hb.os, hb.tape, hb.output, hb.size, fun k hk _ => hb.block k hk⟩ (fun k e => by cases e)
theorem CalF.own_foot (h : CalF w B p r x m v now l f n) : ∀ k, Foot p r m v k → B ≤ k := by
  rintro k (rfl | rfl | rfl | e)
  · exact h.base.1
  · exact h.base.2.1
  · exact h.base.2.2.2
  · exact (h.row.lt k e).1
theorem CalF.lt (h : CalF w B p r x m v now l f n) : ∀ k, (Foot p r m v k ∨ k = x) → k < w.heap.size := by
  rintro k ((rfl | rfl | rfl | e) | rfl)
  · exact lt_of_block h.tk
  · exact lt_of_block h.rw_
  · exact h.map.lt
  · exact (h.row.lt k e).2
  · exact lt_of_block h.box
theorem CalF.cells (h : CalF w B p r x m v now l f n) : w.cell? ⟨p, 0, none⟩ = some (.int .i64 now) ∧ w.cell? ⟨p, 1, none⟩ = some (.pointer (some ⟨r, 0, none⟩)) ∧ w.cell? ⟨p, 2, none⟩ = some (.map (some m)) ∧ w.cell? ⟨r, 0, none⟩ = some v ∧
    w.cell? ⟨r, 1, none⟩ = some (.func (.func 45) #[] #[.pointer (some ⟨x, 0, none⟩)]) ∧ w.cell? ⟨x, 0, none⟩ = some (.pointer (some ⟨p, 0, none⟩)) :=
  ⟨cell_of_row w p 0 _ _ (0, 0) h.tk, cell_of_row w p 1 _ _ (0, 0) h.tk, cell_of_row w p 2 _ _ (0, 0) h.tk, cell_of_row w r 0 _ _ (0, 0) h.rw_, cell_of_row w r 1 _ _ (0, 0) h.rw_, cell_of_row w x 0 _ _ (0, 0) h.box⟩
end
theorem own_shape {w : World} {B e size n : Nat} {v : Value} {xs : List Value} (h : w.ownsRow B e size v n xs) : ∃ A c, v = .slice A n c := by
  obtain ⟨A, c, hv, _⟩ := own_sh h
  exact ⟨A, c, hv⟩

/-! ### small calls -/
def SameP (v : Value) (w : World) (e : Ending) (w' : World) : Prop := e = .returned v ∧ w = w'
set_option maxHeartbeats 1000000 in
theorem none_nil (w : World) : Calls Try.prog 25 #[.pointer none] w (SameP (.bool true) w) := by
  go_enter Try.func25, Try.ntmps25
  go_wp2
  go_ret
  exact ⟨rfl, rfl⟩
set_option maxHeartbeats 1000000 in
theorem none_any (p : Nat) (r : Option Addr) (w : World) (hc : w.cell? ⟨p, 1, none⟩ = some (.pointer r)) : Calls Try.prog 25 #[.pointer (some ⟨p, 0, none⟩)] w (SameP (.bool r.isNone) w) := by
  cases r with
  | none =>
    go_enter Try.func25, Try.ntmps25
    go_wp2
    go_ret
    exact ⟨rfl, rfl⟩
  | some a =>
    go_enter Try.func25, Try.ntmps25
    go_wp2
    go_ret
    exact ⟨rfl, rfl⟩
def isT (t : Int) : Bool := decide (0 ≤ t) && decide (t ≤ 1099511627776)
set_option maxHeartbeats 1000000 in
theorem is_any (t : Int) (w : World) : Calls Try.prog 26 #[.int .i64 t] w (SameP (.bool (isT t)) w) := by
  unfold isT
  by_cases h1 : 0 ≤ t
  · by_cases h2 : t ≤ 1099511627776
    · go_enter Try.func26, Try.ntmps26
      go_wp2
      go_ret
      exact ⟨by simp [h1, h2], rfl⟩
    · go_enter Try.func26, Try.ntmps26
      go_wp2
      go_ret
      exact ⟨by simp [h2], rfl⟩
  · go_enter Try.func26, Try.ntmps26
    go_wp2
    go_ret
    exact ⟨by simp; omega, rfl⟩
set_option maxHeartbeats 1000000 in
theorem rlen_any (r n c : Nat) (A : Option Addr) (w : World) (hc : w.cell? ⟨r, 0, none⟩ = some (.slice A n c)) : Calls Try.prog 30 #[.pointer (some ⟨r, 0, none⟩)] w (SameP (.int .i64 n) w) := by
  go_enter Try.func30, Try.ntmps30
  go_wp2
  go_ret
  exact ⟨rfl, rfl⟩
end Go.Proofs.Ytdaicdaakegdmaa
