/- Two boxes, the document's beside them, in memory: what a call on one of them leaves. -/
import Derived.Test.YtnidmoljhopcoaaPlayNil
namespace Go.Proofs.Ytnidmoljhopcoaa
open Go.RowKit

/-- A box of its own, the document's beside it. -/
structure Side where
  q : Nat
  v : Value
  r : Nat
  u : Value
  floor : Int
  lo : List (Int × Int)
  lr : List (Int × Int)
def ptr (n : Nat) : Value := .pointer (some ⟨n, 0, none⟩)
/-- The cells of the two: the one of concern lies first (false) or second (true). -/
def duoC (b : Bool) (s t : Side) : Array Value := if b then #[ptr t.q, ptr s.q, ptr t.r, ptr s.r] else #[ptr s.q, ptr t.q, ptr s.r, ptr t.r]
structure Duo (W : World) (B wp : Nat) (b : Bool) (s t : Side) : Prop where
  blk : W.heap[wp]? = some (.cells (duoC b s t) 44 (0, 0))
  bs : BoxOf W B s.q s.v s.floor s.lo
  bt : BoxOf W B t.q t.v t.floor t.lo
  rs : RefOf W B s.r s.u s.floor s.lr
  rt : RefOf W B t.r t.u t.floor t.lr
  qq : s.q ≠ t.q
  rr : s.r ≠ t.r
  vv : ∀ g, s.v.ownBlock = some g → t.v.ownBlock ≠ some g
  ss : ∀ g, s.u.ownBlock = some g → s.v.ownBlock ≠ some g
  st : ∀ g, s.u.ownBlock = some g → t.v.ownBlock ≠ some g
  ts : ∀ g, t.u.ownBlock = some g → s.v.ownBlock ≠ some g
  tt : ∀ g, t.u.ownBlock = some g → t.v.ownBlock ≠ some g
  base : B ≤ wp
section
variable {W W' : World} {B wp : Nat} {b : Bool} {s t : Side}
theorem Duo.below (h : Duo W B wp b s t) (hb : Below W.heap.size W W') : Duo W' B wp b s t :=
  ⟨(hb.block wp (lt_of_block h.blk)).trans h.blk, h.bs.below hb, h.bt.below hb, h.rs.below hb, h.rt.below hb, h.qq, h.rr, h.vv, h.ss, h.st, h.ts, h.tt, h.base⟩
theorem ob_ne {o o' : Obj} {a c : Nat} (ha : W.heap[a]? = some o) (hb : W.heap[c]? = some o') (h : o ≠ o')   : a ≠ c := fun e => by
  subst e
  rw [ha] at hb
  exact h (Option.some.inj hb)
theorem box_ref {p r : Nat} {v u : Value} {f f' : Int} {l l' : List (Int × Int)} (hb : BoxOf W B p v f l) (hr : RefOf W B r u f' l') : r ≠ p := ob_ne hr.blk hb.blk (by simp)
theorem box_own {p : Nat} {v : Value} {f : Int} {l : List (Int × Int)} {v' : Value} {n : Nat} {xs : List Value} (hb : BoxOf W B p v f l) (ho : W.ownsRow B 33 2 v' n xs) : v'.ownBlock ≠ some p := own_ne ho hb.blk (by simp)
theorem ref_own {p : Nat} {v : Value} {f : Int} {l : List (Int × Int)} {v' : Value} {n : Nat} {xs : List Value} (hb : RefOf W B p v f l) (ho : W.ownsRow B 33 2 v' n xs) : v'.ownBlock ≠ some p := own_ne ho hb.blk (by simp)
theorem Duo.wp_own (h : Duo W B wp b s t) {v' : Value} {n : Nat} {xs : List Value} (ho : W.ownsRow B 33 2 v' n xs) : v'.ownBlock ≠ some wp := own_ne ho h.blk (by simp)

theorem own_old {v : Value} {B n e size : Nat} {xs : List Value} (h : W.ownsRow B e size v n xs) {g : Nat} (hg : v.ownBlock = some g) : g < W.heap.size := (h.lt g hg).2

/-- The first box has turned. -/
theorem Duo.own1 (h : Duo W B wp b s t) {v' : Value} {l' : List (Int × Int)} (hb : BoxOf W' B s.q v' s.floor l') (ht : Turns (Foot s.q s.v) W W') (hv : v'.ownBlock = s.v.ownBlock ∨ ∀ g, v'.ownBlock = some g → W.heap.size ≤ g) : Duo W' B wp b { s with v := v', lo := l' } t := by
  have hold : ∀ {u : Value} {n : Nat} {xs : List Value}, W.ownsRow B 33 2 u n xs → (∀ g, u.ownBlock = some g → s.v.ownBlock ≠ some g) → ∀ g, u.ownBlock = some g → v'.ownBlock ≠ some g := fun hu h1 g hg => by
    rcases hv with e | e
    · rw [e]; exact h1 g hg
    · intro h2; have := e g h2; have := own_old hu hg; omega
  have nf : ∀ {u : Value} {n : Nat} {xs : List Value}, W.ownsRow B 33 2 u n xs → (∀ g, u.ownBlock = some g → s.v.ownBlock ≠ some g) → ∀ g, u.ownBlock = some g → ¬ Foot s.q s.v g := fun hu h1 g hg e => by
    rcases e with rfl | e
    · exact box_own h.bs hu hg
    · exact h1 g hg e
  have hts : ∀ g, t.v.ownBlock = some g → s.v.ownBlock ≠ some g := fun g hg e => h.vv g e hg
  refine ⟨(ht.block wp (lt_of_block h.blk) ?_).trans h.blk, hb, h.bt.turns ht ?_ (nf h.bt.row hts), h.rs.turns ht ?_ (nf h.rs.row h.ss), h.rt.turns ht ?_ (nf h.rt.row h.ts), h.qq, h.rr, fun g hg e => hold h.bt.row hts g e hg, hold h.rs.row h.ss, h.st, hold h.rt.row h.ts, h.tt, h.base⟩
  · rintro (e | e)
    · exact ob_ne h.blk h.bs.blk (by simp) e
    · exact h.wp_own h.bs.row e
  · rintro (e | e)
    · exact h.qq e.symm
    · exact box_own h.bt h.bs.row e
  · rintro (e | e)
    · exact box_ref h.bs h.rs e
    · exact ref_own h.rs h.bs.row e
  · rintro (e | e)
    · exact box_ref h.bs h.rt e
    · exact ref_own h.rt h.bs.row e
/-- The first box of the document's has turned. -/
theorem Duo.ref1 (h : Duo W B wp b s t) {u' : Value} {l' : List (Int × Int)} (hb : RefOf W' B s.r u' s.floor l') (ht : Turns (fun k => k = s.r) W W') (hv : u'.ownBlock = s.u.ownBlock ∨ ∀ g, u'.ownBlock = some g → W.heap.size ≤ g) : Duo W' B wp b { s with u := u', lr := l' } t := by
  have hold : ∀ {v : Value} {n : Nat} {xs : List Value}, W.ownsRow B 33 2 v n xs → (∀ g, s.u.ownBlock = some g → v.ownBlock ≠ some g) → ∀ g, u'.ownBlock = some g → v.ownBlock ≠ some g := fun hu h1 g hg => by
    rcases hv with e | e
    · exact h1 g (e ▸ hg)
    · intro h2; have := e g hg; have := own_old hu h2; omega
  have nf : ∀ {v : Value} {n : Nat} {xs : List Value}, W.ownsRow B 33 2 v n xs → ∀ g, v.ownBlock = some g → ¬ g = s.r := fun hu g hg e => by
    subst e
    exact ref_own h.rs hu hg
  refine ⟨(ht.block wp (lt_of_block h.blk) ?_).trans h.blk, h.bs.turns ht (fun e => box_ref h.bs h.rs e.symm) (nf h.bs.row), h.bt.turns ht (fun e => box_ref h.bt h.rs e.symm) (nf h.bt.row), hb, h.rt.turns ht (fun e => h.rr e.symm) (nf h.rt.row), h.qq, h.rr, h.vv, hold h.bs.row h.ss, hold h.bt.row h.st, h.ts, h.tt, h.base⟩
  exact ob_ne h.blk h.rs.blk (by simp)
/-- The other way round. -/
theorem Duo.swap (h : Duo W B wp b s t) : Duo W B wp (!b) t s :=
  ⟨h.blk.trans (by cases b <;> rfl), h.bt, h.bs, h.rt, h.rs, h.qq.symm, h.rr.symm, fun g hg e => h.vv g e hg, h.tt, h.ts, h.st, h.ss, h.base⟩
theorem own_low {B B' n e size : Nat} {v : Value} {xs : List Value} (h : W.ownsRow B e size v n xs) (hB : B' ≤ B) : W.ownsRow B' e size v n xs := own_base h hB
/-- The other box is a copy of the first one now. -/
theorem Duo.copied (h : Duo W B wp b s t) (hB : B ≤ W.heap.size) (ht : Turns (fun k => k = wp) W W') {p r' : Nat} {v' : Value} (hblk : W'.heap[wp]? = some (.cells (duoC b s ⟨p, v', r', s.u, s.floor, s.lo, s.lr⟩) 44 (0, 0)))
    (hbx : BoxOf W' W.heap.size p v' s.floor s.lo) (hrf : W'.heap[r']? = some (.cells #[.int .i64 s.floor, s.u] 49 (0, 0))) (hr : W.heap.size ≤ r') : Duo W' B wp b s ⟨p, v', r', s.u, s.floor, s.lo, s.lr⟩ := by
  have nw : ∀ {v : Value} {n : Nat} {xs : List Value}, W.ownsRow B 33 2 v n xs → ∀ g, v.ownBlock = some g → ¬ g = wp := fun hu g hg e => by
    subst e
    exact h.wp_own hu hg
  have nn : ∀ {v : Value} {n : Nat} {xs : List Value}, W.ownsRow B 33 2 v n xs → ∀ g, v.ownBlock = some g → v'.ownBlock ≠ some g := fun hu g hg e => by
    have h1 := own_old hu hg
    have h2 := (hbx.row.lt g e).1
    omega
  have hsr := lt_of_block h.rs.blk
  have hsq := lt_of_block h.bs.blk
  have hpq := hbx.base
  refine ⟨hblk, h.bs.turns ht (fun e => ob_ne h.bs.blk h.blk (by simp) e) (nw h.bs.row), ⟨hbx.blk, own_base hbx.row hB, Nat.le_trans hB hbx.base⟩, h.rs.turns ht (fun e => ob_ne h.rs.blk h.blk (by simp) e) (nw h.rs.row), ⟨hrf, ht.own h.rs.row (nw h.rs.row), Nat.le_trans hB hr⟩, ?_, ?_, nn h.bs.row, h.ss, nn h.rs.row, h.ss, nn h.rs.row, h.base⟩
  · show s.q ≠ p
    omega
  · show s.r ≠ r'
    omega
end
end Go.Proofs.Ytnidmoljhopcoaa
