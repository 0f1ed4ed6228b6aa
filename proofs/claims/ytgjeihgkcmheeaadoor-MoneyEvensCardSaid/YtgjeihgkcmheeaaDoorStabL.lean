/- The library's stable sort, plainly: its levels; and its merge, by the length of its rows. -/
import Derived.Test.YtgjeihgkcmheeaaDoorStabH
namespace Go.Proofs.YtgjeihgkcmheeaaDoor
open Go.Shelf Go.RowKit Go.Lib Go.Sort Go.Proofs

theorem symMerge_any (cf : Int → Int → Int) (hO : SWO (ltOf cf)) (g : Nat) (cb : Array Value) (blk off cap : Nat) (d0 : Array Int) (w0 : World) (eg : ∀ args w, (callFunc g args).run Tryd.prog w = .ok (.enter g args) w) {V : Int → Prop} (hcmp : CmpV V g cb cf blk off d0.size w0)
    (R : Row1 (Value.int .i64) w0 blk off d0) (hsz : d0.size < 4611686018427387904) : ∀ lim, SymIH V cf g cb blk off cap d0.size w0 lim := by
  intro lim
  induction lim with
  | zero => intro a m b d w h; omega
  | succ lim ih =>
    intro a m b d w hlim hd hV S ham hmb hb h1 h2 hc
    rw [← hd]
    rw [← hd] at hV
    by_cases e1 : m = a + 1
    · subst e1
      exact sym1_any cf hO g cb blk off cap a b d0 d w0 w eg hcmp R hd.symm S (by omega) (by omega) hV (by omega) h2 hc
    · by_cases e2 : b = m + 1
      · subst e2
        exact sym2_any cf hO g cb blk off cap a m d0 d w0 w eg hcmp R hd.symm S (by omega) (by omega) hV (by omega) h1 hc
      · have IH : SymIH V cf g cb blk off cap d.size w0 (b - a) := by
          rw [hd]
          intro a' m' b' d' w' hl
          exact ih a' m' b' d' w' (by omega)
        rcases Nat.lt_or_ge ((a + b) / 2) m with h | h
        · exact symGa_any cf hO g cb blk off cap a m b d0 d w0 w eg hcmp R hd.symm S (by omega) (by omega) (by omega) hV (by omega) h1 h2 hc h IH
        · exact symGb_any cf hO g cb blk off cap a m b d0 d w0 w eg hcmp R hd.symm S (by omega) (by omega) (by omega) hV (by omega) h1 h2 hc h IH

/-- Rows of bs, each sorted. -/
def Lvl (lt : Int → Int → Bool) (bs n : Nat) (d : Array Int) : Prop := ∀ k, k * bs < n → Good lt (k * bs) (min (k * bs + bs) n) d
/-- The first p pairs are merged. -/
structure Mid (lt : Int → Int → Bool) (bs n p : Nat) (d : Array Int) : Prop where
  done : ∀ k, k < p → Good lt (k * (2 * bs)) (k * (2 * bs) + 2 * bs) d
  left : ∀ k, 2 * p ≤ k → k * bs < n → Good lt (k * bs) (min (k * bs + bs) n) d
section
variable {lt : Int → Int → Bool} {bs n p : Nat} {d d' : Array Int}
theorem Mid.start (h : Lvl lt bs n d) : Mid lt bs n 0 d := ⟨fun k hk => by omega, fun k _ hk => h k hk⟩
theorem twice (p bs : Nat) : 2 * p * bs = p * (2 * bs) := by rw [Nat.mul_comm 2 p, Nat.mul_assoc]
theorem twice1 (p bs : Nat) : (2 * p + 1) * bs = p * (2 * bs) + bs := by rw [Nat.add_mul, twice, Nat.one_mul]
theorem Mid.pair (h : Mid lt bs n p d) (hb : 0 < bs) (hn : p * (2 * bs) + bs < n) : Good lt (p * (2 * bs)) (p * (2 * bs) + bs) d ∧ Good lt (p * (2 * bs) + bs) (min (p * (2 * bs) + 2 * bs) n) d := by
  have h1 := h.left (2 * p) (Nat.le_refl _) (by rw [twice]; omega)
  have h2 := h.left (2 * p + 1) (by omega) (by rw [twice1]; omega)
  rw [twice] at h1
  rw [twice1] at h2
  refine ⟨?_, ?_⟩
  · rw [show min (p * (2 * bs) + bs) n = p * (2 * bs) + bs by omega] at h1
    exact h1
  · rw [show p * (2 * bs) + bs + bs = p * (2 * bs) + 2 * bs by omega] at h2
    exact h2
theorem mul_le {a b c : Nat} (h : a ≤ b) : a * c ≤ b * c := Nat.mul_le_mul_right c h
theorem Mid.step (h : Mid lt bs n p d) (hb : 0 < bs) (hn : p * (2 * bs) + 2 * bs ≤ n) (hz : n ≤ d.size) (hp : PermIn (p * (2 * bs)) (p * (2 * bs) + 2 * bs) d d') (hs : SortedIn (stb lt) (p * (2 * bs)) (p * (2 * bs) + 2 * bs) d') : Mid lt bs n (p + 1) d' := by
  obtain ⟨g1, g2⟩ := h.pair hb (by omega)
  rw [show min (p * (2 * bs) + 2 * bs) n = p * (2 * bs) + 2 * bs by omega] at g2
  have g := Good.merge g1 g2 (by omega) (by omega) (by omega) hp hs
  refine ⟨fun k hk => ?_, fun k hk hkn => ?_⟩
  · by_cases e : k = p
    · subst e; exact g
    · have h5 : (k + 1) * (2 * bs) ≤ p * (2 * bs) := mul_le (by omega)
      rw [Nat.add_mul, Nat.one_mul] at h5
      exact (h.done k (by omega)).same hp (.inl h5)
  · have h5 : (2 * p + 2) * bs ≤ k * bs := mul_le (by omega)
    rw [Nat.add_mul, twice] at h5
    exact (h.left k (by omega) hkn).same hp (.inr (by omega))
theorem Mid.up (h : Mid lt bs n p d) (hb : 0 < bs) (ha : p * (2 * bs) ≤ n) (hn : n < p * (2 * bs) + 2 * bs) (hg : p * (2 * bs) < n → Good lt (p * (2 * bs)) n d) : Lvl lt (bs * 2) n d := by
  rw [Nat.mul_comm bs 2]
  intro k hk
  rcases Nat.lt_trichotomy k p with h1 | h1 | h1
  · have h5 : (k + 1) * (2 * bs) ≤ p * (2 * bs) := mul_le (by omega)
    rw [Nat.add_mul, Nat.one_mul] at h5
    rw [show min (k * (2 * bs) + 2 * bs) n = k * (2 * bs) + 2 * bs by omega]
    exact h.done k h1
  · subst h1
    rw [show min (k * (2 * bs) + 2 * bs) n = n by omega]
    exact hg hk
  · have h5 : (p + 1) * (2 * bs) ≤ k * (2 * bs) := mul_le (by omega)
    rw [Nat.add_mul, Nat.one_mul] at h5
    omega
theorem Mid.last (h : Mid lt bs n p d) (hn : n ≤ p * (2 * bs) + bs) (h0 : p * (2 * bs) < n) : Good lt (p * (2 * bs)) n d := by
  have h1 := h.left (2 * p) (Nat.le_refl _) (by rw [twice]; omega)
  rw [twice, show min (p * (2 * bs) + bs) n = n by omega] at h1
  exact h1
theorem Mid.merged (h : Mid lt bs n p d) (hb : 0 < bs) (hn : n < p * (2 * bs) + 2 * bs) (hm : p * (2 * bs) + bs < n) (hz : n ≤ d.size) (hp : PermIn (p * (2 * bs)) n d d') (hs : SortedIn (stb lt) (p * (2 * bs)) n d') : Mid lt bs n p d' ∧ Good lt (p * (2 * bs)) n d' ∨ Lvl lt (bs * 2) n d' := by
  obtain ⟨g1, g2⟩ := h.pair hb hm
  rw [show min (p * (2 * bs) + 2 * bs) n = n by omega] at g2
  have g := Good.merge g1 g2 hz (by omega) (by omega) hp hs
  refine .inr ?_
  rw [Nat.mul_comm bs 2]
  intro k hk
  rcases Nat.lt_trichotomy k p with h1 | h1 | h1
  · have h5 : (k + 1) * (2 * bs) ≤ p * (2 * bs) := mul_le (by omega)
    rw [Nat.add_mul, Nat.one_mul] at h5
    rw [show min (k * (2 * bs) + 2 * bs) n = k * (2 * bs) + 2 * bs by omega]
    exact (h.done k h1).same hp (.inl h5)
  · subst h1
    rw [show min (k * (2 * bs) + 2 * bs) n = n by omega]
    exact g
  · have h5 : (p + 1) * (2 * bs) ≤ k * (2 * bs) := mul_le (by omega)
    rw [Nat.add_mul, Nat.one_mul] at h5
    omega
theorem lvl_all (h : Lvl lt bs n d) (hn : n ≤ bs) (h0 : 0 < n) : Good lt 0 n d := by
  have h1 := h 0 (by omega)
  rw [Nat.zero_mul, Nat.zero_add, show min bs n = n by omega] at h1
  exact h1
end
end Go.Proofs.YtgjeihgkcmheeaaDoor
