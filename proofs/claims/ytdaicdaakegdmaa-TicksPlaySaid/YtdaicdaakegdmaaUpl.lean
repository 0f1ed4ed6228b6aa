/- The walk of a calendar's Upto. -/
import Derived.Test.YtdaicdaakegdmaaUpt
namespace Go.Proofs.Ytdaicdaakegdmaa
open Go.RowKit Go.Maps Go.Shelf
open Go.ChangeMaps Go.WideMaps

def lenV : Value → Nat
  | .slice _ n _ => n
  | _ => 0
def hdD (S : List Du) : Du := match S with
  | [] => (0, 0)
  | d :: _ => d
def anyD (S : List Du) : Bool := match S with
  | [] => false
  | _ :: _ => true
theorem nextV_eq (S : List Du) : nextV S = .tuple #[.agg #[.int .i64 (hdD S).1, .int .i64 (hdD S).2], .bool (anyD S)] := by cases S <;> rfl
section
variable {w wr w' : World} {B p r x m b : Nat} {v v1 vo : Value} {now t : Int} {l l1 S rest out : List Du}
theorem CalF.reNow {n : Nat} {f : Int → Option Nat} (h : CalF w B p r x m v now l f n) (t : Int) : CalF (w.setCell ⟨p, 0, none⟩ (.int .i64 t)) B p r x m v t l f n := by
  have hr := h.rows
  have ha := h.apart
  have key : ∀ {k : Nat} {o : Obj}, k ≠ p → w.heap[k]? = some o → (w.setCell ⟨p, 0, none⟩ (.int .i64 t)).heap[k]? = some o := fun hk ho => (Below.heap_setCell _ _ _ _ hk).trans ho
  exact ⟨setCell_block h.tk 0 _, key (Ne.symm ha.1) h.rw_, key (Ne.symm ha.2.1) h.box, ownsRow_setCell_other h.row hr.1 _, h.map.keep (grown_setC _ _ _ _) (fun e => ha.2.2.1 (Option.some.inj e)), h.base, h.nod, h.len, h.ok⟩

/-- What Upto's loop holds. -/
structure UpI (w : World) (B p r x m : Nat) (v : Value) (t : Int) (v1 : Value) (l1 rest out : List Du) (vo : Value) (b : Nat) (wr : World) : Prop where
  cal : Cal wr B p r x m v1 t l1
  rel : RelD l1 rest
  row : wr.ownsRow w.heap.size 30 2 vo out.length (flatD out)
  dc : wr.heap[b]? = some (.cells #[.int .i64 (hdD rest).1, .int .i64 (hdD rest).2] 30 (0, 0))
  bw : w.heap.size ≤ b
  ap : v1.ownBlock ≠ some b ∧ vo.ownBlock ≠ some b ∧ ∀ g, vo.ownBlock = some g → v1.ownBlock ≠ some g
  only : Only (Foot p r m v) w wr
  new : ∀ g, v1.ownBlock = some g → v.ownBlock = some g ∨ w.heap.size ≤ g
theorem UpI.cells (h : UpI w B p r x m v t v1 l1 rest out vo b wr) : wr.cell? ⟨b, 0, none⟩ = some (.int .i64 (hdD rest).1) ∧ wr.cell? ⟨b, 1, none⟩ = some (.int .i64 (hdD rest).2) :=
  ⟨cell_of_row wr b 0 _ _ (0, 0) h.dc, cell_of_row wr b 1 _ _ (0, 0) h.dc⟩
/-- What has been told stands while the calendar turns. -/
theorem keep_out {w1 : World} {e size n : Nat} {xs : List Value} {S : Nat → Prop} (h : wr.ownsRow w.heap.size e size vo n xs) (ho : Only S wr w1) (hS : ∀ g, vo.ownBlock = some g → ¬ S g) : w1.ownsRow w.heap.size e size vo n xs := by
  obtain ⟨h1, h2⟩ := h
  refine ⟨h1, ?_⟩
  rcases h2 with h2 | ⟨g, cap, cur, hv, hb, hh, hr⟩
  · exact .inl h2
  · exact .inr ⟨g, cap, cur, hv, hb, (ho.block g (lt_of_block hh) (hS g (by rw [hv]; rfl))).trans hh, hr⟩
/-- What Upto answers, and leaves. -/
def UptoP (B p r x m : Nat) (v : Value) (t : Int) (S : List Du) (w : World) (e : Ending) (w' : World) : Prop :=
  ∃ vo v' l', e = .returned (.tuple #[vo, .int .i64 0]) ∧ w'.ownsRow w.heap.size 30 2 vo (S.takeWhile (fun d => decide (d.1 ≤ t))).length (flatD (S.takeWhile (fun d => decide (d.1 ≤ t)))) ∧ Cal w' B p r x m v' t l' ∧ RelD l' (S.dropWhile (fun d => decide (d.1 ≤ t))) ∧
    Only (Foot p r m v) w w' ∧ (∀ g, v'.ownBlock = some g → v.ownBlock = some g ∨ w.heap.size ≤ g) ∧ (∀ g, vo.ownBlock = some g → v'.ownBlock ≠ some g)
theorem UpI.start (h : Cal w B p r x m v now l) (hS : RelD l S) {w2 : World} (hb : Below (w.setCell ⟨p, 0, none⟩ (.int .i64 t)).heap.size (w.setCell ⟨p, 0, none⟩ (.int .i64 t)) w2) :
    UpI w B p r x m v t v l S [] (.slice none 0 0) w2.heap.size (w2.alloc (.cells #[.int .i64 (hdD S).1, .int .i64 (hdD S).2] 30)) := by
  have h1 : Cal (w.setCell ⟨p, 0, none⟩ (.int .i64 t)) B p r x m v t l := CalF.reNow h t
  have hz : w.heap.size ≤ w2.heap.size := by have := hb.size; simpa [World.setCell] using this
  have hb2 : Below w2.heap.size w2 (w2.alloc (.cells #[.int .i64 (hdD S).1, .int .i64 (hdD S).2] 30)) := (Below.refl _ _).alloc (Nat.le_refl _) _
  have h2 : Cal w2 B p r x m v t l := CalF.below h1 hb
  refine ⟨CalF.below h2 hb2, hS, World.ownsRow_nil _ _ _ _, heap_alloc_new w2 _, hz, ⟨fun e => ?_, by simp [Value.ownBlock], fun g hg => by simp [Value.ownBlock] at hg⟩, ?_, fun g hg => .inl hg⟩
  · have := (h2.row.lt _ e).2; omega
  · exact only_below (only_below ((Only.refl _ w).set ⟨p, 0, none⟩ (.inl rfl) _) hb) hb2
theorem take_split (S : List Du) (t : Int) : S = S.takeWhile (fun d => decide (d.1 ≤ t)) ++ S.dropWhile (fun d => decide (d.1 ≤ t)) := List.takeWhile_append_dropWhile.symm
theorem split_at {A C : List Du} {t : Int} (h1 : ∀ d ∈ A, d.1 ≤ t) (h2 : C = [] ∨ ∃ d C', C = d :: C' ∧ ¬ d.1 ≤ t) : (A ++ C).takeWhile (fun d => decide (d.1 ≤ t)) = A ∧ (A ++ C).dropWhile (fun d => decide (d.1 ≤ t)) = C := by
  induction A with
  | nil =>
    rcases h2 with rfl | ⟨d, C', rfl, hd⟩
    · exact ⟨rfl, rfl⟩
    · rw [List.nil_append, List.takeWhile_cons, List.dropWhile_cons, if_neg (by simpa using hd), if_neg (by simpa using hd)]
      exact ⟨rfl, rfl⟩
  | cons a A ih =>
    have ha := h1 a List.mem_cons_self
    have := ih (fun d hd => h1 d (List.mem_cons_of_mem _ hd))
    rw [List.cons_append, List.takeWhile_cons, List.dropWhile_cons, if_pos (by simpa using ha), if_pos (by simpa using ha)]
    exact ⟨by rw [this.1], this.2⟩
/-- Behind the append. -/
theorem UpI.push {d : Du} {w3 : World} {vo' : Value} (HLT : p < w.heap.size ∧ r < w.heap.size ∧ x < w.heap.size ∧ m < w.heap.size) (h : UpI w B p r x m v t v1 l1 (d :: rest) out vo b wr) {o : Obj}
    (hown : w3.ownsRow w.heap.size 30 2 vo' (out.length + 1) (flatD out ++ [.int .i64 d.1, .int .i64 d.2])) (hg : (wr.alloc o).grownBy w3 vo.ownBlock) (hat : vo'.ownBlock = vo.ownBlock ∨ vo'.ownBlock = some (wr.alloc o).heap.size) :
    UpI w B p r x m v t v1 l1 (d :: rest) (out ++ [d]) vo' b w3 := by
  have hb1 : Below wr.heap.size wr (wr.alloc o) := (Below.refl _ _).alloc (Nat.le_refl _) _
  have hc1 : Cal (wr.alloc o) B p r x m v1 t l1 := CalF.below h.cal hb1
  have hr1 := own_below h.row hb1 (Nat.le_refl _)
  have hlo : ∀ g, vo.ownBlock = some g → w.heap.size ≤ g := fun g hg' => (h.row.lt g hg').1
  have hz : (wr.alloc o).heap.size = wr.heap.size + 1 := by simp
  refine ⟨CalF.keep hc1 hg (fun k e => ?_), h.rel, ?_, ?_, h.bw, ⟨h.ap.1, ?_, ?_⟩, ?_, h.new⟩
  · have := hlo k e
    exact ⟨by omega, by omega, by omega, by omega, h.ap.2.2 k e⟩
  · rw [flatD_append, List.length_append]; exact hown
  · exact (hg.block b (by have := lt_of_block h.dc; omega) (fun e => h.ap.2.1 e.symm)).trans ((hb1.block b (lt_of_block h.dc)).trans h.dc)
  · intro e
    rcases hat with h1 | h1
    · exact h.ap.2.1 (h1 ▸ e)
    · rw [h1] at e
      have := Option.some.inj e
      have := lt_of_block h.dc
      omega
  · intro g hg' e
    rcases hat with h1 | h1
    · exact h.ap.2.2 g (h1 ▸ hg') e
    · rw [h1] at hg'
      have := Option.some.inj hg'
      have := (h.cal.row.lt g e).2
      omega
  · refine (only_below h.only hb1).trans (T := fun k => vo.ownBlock = some k) ⟨hg.os, hg.tape, hg.output, hg.size, fun k hk hn => hg.block k hk (fun e => hn e.symm)⟩ (fun k hk e => ?_)
    have := hlo k e
    omega
/-- Behind the pop. -/
theorem UpI.pop {d : Du} {w3 w4 : World} {v2 : Value} (HLT : p < w.heap.size ∧ r < w.heap.size ∧ x < w.heap.size ∧ m < w.heap.size) (h : UpI w B p r x m v t v1 l1 (d :: rest) out vo b w3) (hc : Cal w4 B p r x m v2 t (popD l1)) (ho : Only (Foot p r m v1) w3 w4)
    (hv : ∀ g, v2.ownBlock = some g → v1.ownBlock = some g ∨ w3.heap.size ≤ g) {w5 : World} (hb : Below (w4.alloc (.cells #[.int .i64 d.1, .int .i64 d.2] 30)).heap.size (w4.alloc (.cells #[.int .i64 d.1, .int .i64 d.2] 30)) w5) :
    w4.heap[b]? = some (.cells #[.int .i64 d.1, .int .i64 d.2] 30 (0, 0)) ∧ w5.heap[w4.heap.size]? = some (.cells #[.int .i64 d.1, .int .i64 d.2] 30 (0, 0)) ∧
    UpI w B p r x m v t v2 (popD l1) rest out vo w4.heap.size ((w5.setCell ⟨w4.heap.size, 0, none⟩ (.int .i64 (hdD rest).1)).setCell ⟨w4.heap.size, 1, none⟩ (.int .i64 (hdD rest).2)) := by
  have hlo : ∀ g, vo.ownBlock = some g → w.heap.size ≤ g ∧ g < w3.heap.size := fun g hg' => h.row.lt g hg'
  have hnf : ∀ k, w.heap.size ≤ k → v1.ownBlock ≠ some k → ¬ Foot p r m v1 k := by
    rintro k hk hne (rfl | rfl | rfl | e)
    · omega
    · omega
    · omega
    · exact hne e
  have hdc4 : w4.heap[b]? = some (.cells #[.int .i64 d.1, .int .i64 d.2] 30 (0, 0)) := (ho.block b (lt_of_block h.dc) (hnf b h.bw h.ap.1)).trans h.dc
  have hr4 := keep_out h.row ho (fun g hg => hnf g (hlo g hg).1 (h.ap.2.2 g hg))
  have hb4 : Below w4.heap.size w4 (w4.alloc (.cells #[.int .i64 d.1, .int .i64 d.2] 30)) := (Below.refl _ _).alloc (Nat.le_refl _) _
  have hb5 : Below w4.heap.size w4 w5 := hb4.trans (hb.mono hb4.size)
  have hx5 : w5.heap[w4.heap.size]? = some (.cells #[.int .i64 d.1, .int .i64 d.2] 30 (0, 0)) := (hb.block _ (by simp)).trans (heap_alloc_new w4 _)
  have hc5 : Cal w5 B p r x m v2 t (popD l1) := CalF.below hc hb5
  have hr5 := own_below hr4 hb5 (Nat.le_refl _)
  have hz4 := h.only.size
  have hz3 := ho.size
  have hv2b : v2.ownBlock ≠ some w4.heap.size := fun e => by have := (hc.row.lt _ e).2; omega
  have hvob : vo.ownBlock ≠ some w4.heap.size := fun e => by have := (hlo _ e).2; omega
  have hwz : w.heap.size ≤ w4.heap.size := by omega
  have kp : ∀ {W : World} (i : Nat) (u : Value), Cal W B p r x m v2 t (popD l1) → w.heap.size ≤ W.heap.size → Cal (W.setCell ⟨w4.heap.size, i, none⟩ u) B p r x m v2 t (popD l1) := fun i u hW _ =>
    CalF.keep hW (grown_setC _ _ _ _) (fun k e => by
      have := Option.some.inj e
      subst this
      exact ⟨by omega, by omega, by omega, by omega, hv2b⟩)
  refine ⟨hdc4, hx5, kp 1 _ (kp 0 _ hc5 (by have := hb5.size; omega)) (by simp [World.setCell]; have := hb5.size; omega), h.rel.pop, ownsRow_setCell_other (ownsRow_setCell_other hr5 hvob _) hvob _, setCell_block (setCell_block hx5 0 _) 1 _, hwz, ⟨hv2b, hvob, fun g hg e => ?_⟩, ?_, fun g hg => ?_⟩
  · rcases hv g e with h1 | h1
    · exact h.ap.2.2 g hg h1
    · have := (hlo g hg).2; omega
  · have h1 : Only (Foot p r m v) w w4 := turn_stay h.only h.new ho
    have h2 := only_below h1 hb5
    have key : ∀ {W : World} (i : Nat) (u : Value), Only (Foot p r m v) w W → Only (Foot p r m v) w (W.setCell ⟨w4.heap.size, i, none⟩ u) := fun {W} i u hW =>
      hW.trans (T := fun k => k = w4.heap.size) ⟨rfl, rfl, rfl, by simp [World.setCell], fun k _ hne => Below.heap_setCell W _ _ k hne⟩ (fun k hk e => by omega)
    exact key 1 _ (key 0 _ h2)
  · rcases hv g hg with h1 | h1
    · exact h.new g h1
    · exact .inr (by omega)
set_option maxRecDepth 100000 in
set_option maxHeartbeats 8000000 in
theorem upto_any (h : Cal w B p r x m v now l) (hS : RelD l S) (hBw : B ≤ w.heap.size) (ht : isT t = true) (hn : ¬ t < now) :
    Calls Try.prog 10 #[.pointer (some ⟨p, 0, none⟩), .int .i64 t] w (UptoP B p r x m v t S w) := by
  have c0 := h.cells.1
  have c1 := h.cells.2.1
  have f0 := frozen_of_row w p 0 _ _ h.tk
  have HIS := hide (is_any t w)
  rw [ht] at HIS
  have h1 : Cal (w.setCell ⟨p, 0, none⟩ (.int .i64 t)) B p r x m v t l := CalF.reNow h t
  have HNX := hide (next_any h1 hS)
  rw [nextV_eq] at HNX
  have HD := hide h
  have HS := hide hS
  have HLT : Hid (p < w.heap.size ∧ r < w.heap.size ∧ x < w.heap.size ∧ m < w.heap.size) := hide ⟨lt_of_block h.tk, lt_of_block h.rw_, lt_of_block h.box, h.map.lt⟩
  clear h hS h1 ht
  go_enter Try.func10, Try.ntmps10
  go_wp2_with (first | (go_at_call 25; refine (none_any p _ _ c1).mono ?_; rintro e _ ⟨rfl, rfl⟩) | (go_at_call 26; refine (HIS.out).mono ?_; rintro e _ ⟨rfl, rfl⟩) | (go_at_call 12; refine (HNX.out).mono ?_; rintro e w2 ⟨rfl, hb2⟩; have HI := hide (UpI.start (t := t) HD.out HS.out hb2); clear hb2))
  clear c0 c1 f0
  have HSL : Hid (S.length ≤ 1000000) := hide (by rw [← HS.out.length]; exact HD.out.len)
  go_loopw [6, 7, 8] (fun vo pb ok wr => ∃ v1 l1 rest out b, pb = .pointer (some ⟨b, 0, none⟩) ∧ ok = .bool (anyD rest) ∧ UpI w B p r x m v t v1 l1 rest out vo b wr ∧ S = out ++ rest ∧ (∀ d ∈ out, d.1 ≤ t)) (fun vo _ _ _ => S.length - lenV vo)
  case atStart => exact ⟨v, l, S, [], w2.heap.size, rfl, rfl, HI.out, rfl, fun d hd => by cases hd⟩
  case round =>
    obtain ⟨v1, l1, rest, out, b, rfl, rfl, hu, hso, hle⟩ := hrel
    have HU := hide hu
    have HSO := hide hso
    have HLE := hide hle
    obtain ⟨A, c, rfl⟩ := own_shape hu.row
    obtain ⟨q0, q1⟩ := hu.cells
    clear hu hso hle
    cases rest with
    | nil =>
      have HEND := hide (split_at (t := t) HLE.out (.inl (rfl : ([] : List Du) = [])))
      rw [← HSO.out] at HEND
      have ha : anyD [] = false := rfl
      go_wp2_with fail
      go_ret2
      refine ⟨_, v1, l1, rfl, ?_, HU.out.cal, ?_, HU.out.only, HU.out.new, HU.out.ap.2.2⟩
      · rw [HEND.out.1]; exact HU.out.row
      · rw [HEND.out.2]; exact HU.out.rel
    | cons d rest =>
      have ha : anyD (d :: rest) = true := rfl
      have hh : hdD (d :: rest) = d := rfl
      rw [hh] at q0 q1
      obtain ⟨d1, d2⟩ := d
      simp only at q0 q1
      by_cases hd : d1 ≤ t
      · have hd' : decide (d1 ≤ t) = true := decide_eq_true hd
        have hb1 : Below wr.heap.size wr (wr.alloc (.cells #[.int .i64 d1, .int .i64 d2] 30)) := (Below.refl _ _).alloc (Nat.le_refl _) _
        have hx1 := heap_alloc_new wr (.cells #[.int .i64 d1, .int .i64 d2] 30)
        have HNW : Hid (Reads (wr.alloc (.cells #[.int .i64 d1, .int .i64 d2] 30)) (wr.alloc (.cells #[.int .i64 d1, .int .i64 d2] 30)).heap.size 2 (some ⟨wr.heap.size, 0, none⟩) 1 [.int .i64 d1, .int .i64 d2]) := hide ⟨rfl, fun _ => ⟨_, 0, rfl, lt_of_block hx1, fun j u hu => by
          match j, hu with
          | 0, hu => injection hu with hu; subst hu; exact cell_of_row _ _ 0 _ _ (0, 0) hx1
          | 1, hu => injection hu with hu; subst hu; exact cell_of_row _ _ 1 _ _ (0, 0) hx1
          | j + 2, hu => simp at hu⟩⟩
        have HRW := hide (own_below HU.out.row hb1 (Nat.le_refl _))
        have G0 : Hid (out.length + 1 ≤ S.length) := hide (by rw [HSO.out]; simp)
        have G1 : Hid (∀ u ∈ [Value.int .i64 d1, .int .i64 d2], u.oneCell' = true) := hide (by intro u hu; simp at hu; rcases hu with rfl | rfl <;> rfl)
        have G2 : Hid (out.length + 1 ≤ maxLen) := hide (by unfold maxLen; have := G0.out; have := HSL.out; omega)
        have G3 : Hid ((out.length + 1) * 16 ≤ 140737488355328) := hide (by have := G0.out; have := HSL.out; omega)
        have G4 : Hid (w.heap.size ≤ (wr.alloc (.cells #[.int .i64 d1, .int .i64 d2] 30)).heap.size) := hide (by have := HU.out.only.size; simp; omega)
        clear hb1 hx1
        go_wp2_with (at_builtin; refine wpList_append_any rfl (.tmp 44) (.tmp 46) 22 rfl w.heap.size 30 (.agg #[.int .i64 0, .int .i64 0]) 2 16 infoD Try.underlying22 rfl (by decide) _ out.length (flatD out) rfl HRW.out (wr.alloc (.cells #[.int .i64 d1, .int .i64 d2] 30)).heap.size (some ⟨wr.heap.size, 0, none⟩) 1 1 [.int .i64 d1, .int .i64 d2] rfl HNW.out G1.out G2.out G3.out G4.out ?_; intro vo' w3 hown3 hg3 hat3; have HU3 := hide (UpI.push (d := (d1, d2)) HLT.out HU.out hown3 hg3 hat3); obtain ⟨q2, q3⟩ := HU3.out.cells; have q4 := HU3.out.cal.cells.2.1; obtain ⟨A3, c3, rfl⟩ := own_shape hown3; clear hown3 hg3 hat3)
        have HPO := hide (hpop_any HU3.out.cal (by rw [HU3.out.rel.length]; simp))
        rw [HU3.out.rel.head] at HPO
        refine (HPO.out).mono ?_
        rintro _ w4 ⟨rfl, v2, hc4, ho4, hv4⟩
        have HC4 := hide hc4
        have HO4 := hide ho4
        have HV4 := hide hv4
        have HNX4 := hide (next_any (CalF.below hc4 ((Below.refl _ _).alloc (Nat.le_refl _) (.cells #[.int .i64 d1, .int .i64 d2] 30))) HU3.out.rel.pop)
        rw [nextV_eq] at HNX4
        have hpp := HU3.out.pop HLT.out hc4 ho4 hv4 (Below.refl _ _)
        have z0 := cell_of_row w4 b 0 _ _ (0, 0) hpp.1
        have z1 := cell_of_row w4 b 1 _ _ (0, 0) hpp.1
        simp only [List.getElem?_toArray, List.getElem?_cons_zero, List.getElem?_cons_succ] at z0 z1
        clear hc4 ho4 hv4 hpp q2 q3 q4 q0 q1
        go_wp2_with fail
        refine (HNX4.out).mono ?_
        rintro _ w5 ⟨rfl, hb5⟩
        have HP5 := hide (HU3.out.pop HLT.out HC4.out HO4.out HV4.out hb5)
        have z2 := cell_of_row w5 w4.heap.size 0 _ _ (0, 0) HP5.out.2.1
        have z3 := cell_of_row w5 w4.heap.size 1 _ _ (0, 0) HP5.out.2.1
        have z4 := frozen_of_row w5 w4.heap.size 0 _ _ HP5.out.2.1
        have z5 := frozen_of_row w5 w4.heap.size 1 _ _ HP5.out.2.1
        simp only [List.getElem?_toArray, List.getElem?_cons_zero, List.getElem?_cons_succ] at z2 z3
        clear hb5 z0 z1
        go_wp2_with fail
        go_roundw
        case rel => exact ⟨v2, _, rest, out ++ [(d1, d2)], _, rfl, rfl, HP5.out.2.2, by rw [HSO.out]; simp, fun y hy => by
          rcases List.mem_append.1 hy with h1 | h1
          · exact HLE.out y h1
          · obtain rfl := List.mem_singleton.1 h1
            exact hd⟩
        case measure => have := G0.out; simp [lenV]; omega
      · have hd' : decide (d1 ≤ t) = false := decide_eq_false hd
        have HEND := hide (split_at (t := t) HLE.out (.inr ⟨(d1, d2), rest, rfl, hd⟩))
        rw [← HSO.out] at HEND
        go_wp2_with fail
        go_ret2
        refine ⟨_, v1, l1, rfl, ?_, HU.out.cal, ?_, HU.out.only, HU.out.new, HU.out.ap.2.2⟩
        · rw [HEND.out.1]; exact HU.out.row
        · rw [HEND.out.2]; exact HU.out.rel
end
end Go.Proofs.Ytdaicdaakegdmaa
