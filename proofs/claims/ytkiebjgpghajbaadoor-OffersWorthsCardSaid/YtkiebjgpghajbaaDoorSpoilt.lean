/- The walks of gavellaw08.spoilt and gavellaw08.great; buyers that are laid for a call. -/
import Derived.Test.YtkiebjgpghajbaaDoorOffC
import Derived.Test.YtkiebjgpghajbaaDoorChosen
namespace Go.Proofs.YtkiebjgpghajbaaDoor
open Go.RowKit Go.Maps
open Go.ChangeMaps Go.WideMaps

theorem bt {a b c : World} (h : Below a.heap.size a b) (k : Below b.heap.size b c) : Below a.heap.size a c := h.trans (k.mono h.size)
theorem own_front {w : World} {B e size n k : Nat} {A : Option Addr} {c : Nat} {xs : List Value} (h : w.ownsRow B e size (.slice A n c) n xs) (hk : k ≤ n) (h0 : 0 < n) : w.ownsRow B e size (.slice A k c) k (xs.take (k * size)) := by
  obtain ⟨h1, h2⟩ := h
  refine ⟨by rw [List.length_take, h1]; exact Nat.min_eq_left (Nat.mul_le_mul_right _ hk), ?_⟩
  rcases h2 with ⟨_, h2⟩ | ⟨g, cap, cur, hv, hg, hh, hle, hm, hs, ht⟩
  · omega
  · injection hv with e1 e2 e3
    subst e1 e3
    refine .inr ⟨g, c, cur, rfl, hg, hh, by omega, hm, hs, ?_⟩
    rw [← ht, List.take_take, Nat.min_eq_left (Nat.mul_le_mul_right _ hk)]
theorem one_buys {w : World} {A : Option Addr} {c : Nat} {l : List Offer} (h : Offs w w.heap.size A l) (hc : l.length ≤ c) : Buys (w.alloc (.cells #[.slice A l.length c] 22)) (w.alloc (.cells #[.slice A l.length c] 22)).heap.size (some ⟨w.heap.size, 0, none⟩) [(A, c)] [l] := by
  have hb : Below w.heap.size w (w.alloc (.cells #[.slice A l.length c] 22)) := (Below.refl _ _).alloc (Nat.le_refl _) _
  have hx := heap_alloc_new w (.cells #[.slice A l.length c] 22)
  refine ⟨rfl, ⟨rfl, fun _ => ⟨w.heap.size, 0, rfl, lt_of_block hx, fun j u hu => ?_⟩⟩, fun i a l' ha hl' => ?_⟩
  · rw [Nat.zero_add, cell_of_row _ _ j _ _ (0, 0) hx]
    simpa [hdrV] using hu
  · rcases i with _ | i
    · simp only [List.getElem?_cons_zero, Option.some.injEq] at ha hl'
      subst ha hl'
      exact ⟨h.up hb, hc⟩
    · simp at ha
theorem two_buys {w : World} {A A' : Option Addr} {c c' : Nat} {l l' : List Offer} (h : Offs w w.heap.size A l) (hc : l.length ≤ c) (h' : Offs w w.heap.size A' l') (hc' : l'.length ≤ c') :
    Buys (w.alloc (.cells #[.slice A l.length c, .slice A' l'.length c'] 22)) (w.alloc (.cells #[.slice A l.length c, .slice A' l'.length c'] 22)).heap.size (some ⟨w.heap.size, 0, none⟩) [(A, c), (A', c')] [l, l'] := by
  have hb : Below w.heap.size w (w.alloc (.cells #[.slice A l.length c, .slice A' l'.length c'] 22)) := (Below.refl _ _).alloc (Nat.le_refl _) _
  have hx := heap_alloc_new w (.cells #[.slice A l.length c, .slice A' l'.length c'] 22)
  refine ⟨rfl, ⟨rfl, fun _ => ⟨w.heap.size, 0, rfl, lt_of_block hx, fun j u hu => ?_⟩⟩, fun i a m ha hm => ?_⟩
  · rw [Nat.zero_add, cell_of_row _ _ j _ _ (0, 0) hx]
    simpa [hdrV] using hu
  · rcases i with _ | _ | i
    · simp only [List.getElem?_cons_zero, Option.some.injEq] at ha hm
      subst ha hm
      exact ⟨h.up hb, hc⟩
    · simp only [Nat.zero_add, List.getElem?_cons_succ, List.getElem?_cons_zero, Option.some.injEq] at ha hm
      subst ha hm
      exact ⟨h'.up hb, hc'⟩
    · simp at ha
theorem apart_of {v v' : Value} {C : Nat} (h1 : ∀ k, v.ownBlock = some k → k < C) (h2 : ∀ k, v'.ownBlock = some k → C ≤ k) : v'.ownBlock ≠ v.ownBlock ∨ v'.ownBlock = none := by
  cases h : v'.ownBlock with
  | none => exact .inr rfl
  | some k => exact .inl fun e => absurd (h1 k e.symm) (Nat.not_lt.2 (h2 k h))
theorem apart_of' {v v' : Value} {C : Nat} (h1 : ∀ k, v'.ownBlock = some k → k < C) (h2 : ∀ k, v.ownBlock = some k → C ≤ k) : v'.ownBlock ≠ v.ownBlock ∨ v'.ownBlock = none := by
  cases h : v'.ownBlock with
  | none => exact .inr rfl
  | some k => exact .inl fun e => absurd (h1 k h) (Nat.not_lt.2 (h2 k e.symm))
def SpoiltPost (row : Option Nat) (w : World) (e : Ending) (w' : World) : Prop := e = .returned (.tuple #[]) ∧ w.grownBy w' row
def SpI (w : World) (base : Nat) (v vv : Value) (m : Nat) (wr : World) : Prop := (∃ xs, wr.ownsRow base 67 2 vv m xs) ∧ w.grownBy wr v.ownBlock ∧ (vv.ownBlock = v.ownBlock ∨ ∃ g, vv.ownBlock = some g ∧ w.heap.size ≤ g) ∧ base ≤ wr.heap.size
theorem SpI.step {w wr w4 : World} {base m : Nat} {v vv v4 : Value} {xs news : List Value} {k : Nat} (h : SpI w base v vv m wr) (h2 : w4.ownsRow base 67 2 v4 k (xs ++ news)) (h3 : wr.grownBy w4 vv.ownBlock) (h4 : v4.ownBlock = vv.ownBlock ∨ ∃ g, v4.ownBlock = some g ∧ wr.heap.size < g) : SpI w base v v4 k w4 := by
  obtain ⟨_, hg, hv, hb⟩ := h
  refine ⟨⟨_, h2⟩, ⟨h3.os.trans hg.os, h3.tape.trans hg.tape, h3.output.trans hg.output, Nat.le_trans hg.size h3.size, fun i hi hne => ?_⟩, ?_, Nat.le_trans hb h3.size⟩
  · refine (h3.block i (Nat.lt_of_lt_of_le hi hg.size) (fun e => ?_)).trans (hg.block i hi hne)
    rcases hv with hv | ⟨g, hv, hgg⟩
    · exact hne (e.trans hv)
    · rw [hv] at e
      have := Option.some.inj e
      omega
  · rcases h4 with h4 | ⟨g, h4, h5⟩
    · rw [h4]; exact hv
    · exact .inr ⟨g, h4, by have := hg.size; omega⟩

set_option maxRecDepth 100000 in
set_option maxHeartbeats 4000000 in
theorem spoilt_any {base n : Nat} {v : Value} {xs : List Value} (w : World) (hown : w.ownsRow base 67 2 v n xs) (hn : n ≤ 1000000) (hbs : base ≤ w.heap.size) :
    Calls Tryd.prog 14 #[v] w (SpoiltPost v.ownBlock w) := by
  have K1 : Hid (∀ u ∈ [Value.int .u32 0, .int .i64 (-6)], u.oneCell' = true) := hide (fun u hu => by simp at hu; rcases hu with rfl | rfl <;> rfl)
  obtain ⟨A, c, rfl, hcap⟩ := own_sh hown
  have H0 := hide hown
  clear hown
  go_enter Tryd.func14, Tryd.ntmps14
  go_wp2_with fail
  go_loopw [2] (fun iv wr => ∃ k : Nat, k ≤ n ∧ iv = .int .i64 k ∧ SpI w base (.slice A n c) (.slice A n c) n wr) (fun iv _ => n - (intOf iv).toNat)
  case atStart => exact ⟨0, Nat.zero_le _, rfl, ⟨_, H0.out⟩, World.grownBy.refl _ _, .inl rfl, hbs⟩
  case round =>
    obtain ⟨k, hk, rfl, hsp⟩ := hrel
    have HSP := hide hsp
    obtain ⟨⟨ys, hys⟩, _, _, _⟩ := hsp
    by_cases hlt : k < n
    · obtain ⟨g, _, hA, _, _⟩ := hys.form (by omega)
      injection hA with hA _ _
      subst hA
      have hl : ys.length = n * 2 := hys.1
      have c0 : wr.cell? ⟨g, k * 2, none⟩ = some ys[k * 2] := (hys.cellAt (k * 2) (by omega)).trans (List.getElem?_eq_getElem (by omega))
      have c1 : wr.cell? ⟨g, k * 2 + 1, none⟩ = some ys[k * 2 + 1] := (hys.cellAt (k * 2 + 1) (by omega)).trans (List.getElem?_eq_getElem (by omega))
      have f0 := hys.frozenAt (k * 2)
      have f1 := hys.frozenAt (k * 2 + 1)
      have hs1 := hys.stored (k * 2) (.int .u32 0)
      have hs2 := hs1.1.stored (k * 2 + 1) (.int .i64 (-5))
      have HN : Hid (SpI w base (.slice (some ⟨g, 0, none⟩) n c) (.slice (some ⟨g, 0, none⟩) n c) n ((wr.setCell ⟨g, k * 2, none⟩ (.int .u32 0)).setCell ⟨g, k * 2 + 1, none⟩ (.int .i64 (-5)))) := hide (by
        have hg := grown_trans' hs1.2 hs2.2
        exact SpI.step (news := []) HSP.out (by rw [List.append_nil]; exact hs2.1) hg (.inl rfl))
      generalize ys[k * 2] = q0 at c0
      generalize ys[k * 2 + 1] = q1 at c1
      have hki : (k : Int) < (n : Int) := by omega
      clear hs1 hs2 hys hl
      go_upto_region 2 with fail
      generalize (wr.setCell ⟨g, k * 2, none⟩ (.int .u32 0)).setCell ⟨g, k * 2 + 1, none⟩ (.int .i64 (-5)) = w5 at *
      clear c0 c1 f0 f1
      go_wp2_with fail
      go_roundw
      case rel => exact ⟨k + 1, by omega, by go_num, HN.out⟩
      case measure => simp [intOf]; omega
    · obtain rfl : k = n := by omega
      clear hys
      go_wp2_with fail
      obtain ⟨wo, rfl⟩ : ∃ wo : World, wo = wr := ⟨_, rfl⟩
      go_loopw [0, 3] (fun uv jv wr => ∃ (j : Nat) (vv : Value), j ≤ 5 ∧ jv = .int .i64 j ∧ vv = uv ∧ SpI w base (.slice A k c) vv (k + j) wr) (fun _ jv _ => 5 - (intOf jv).toNat)
      case atStart => exact ⟨0, _, by omega, rfl, rfl, HSP.out⟩
      case round =>
        obtain ⟨j, vv, hj, rfl, rfl, hsp⟩ := hrel
        have HSQ := hide hsp
        obtain ⟨⟨ys, hys⟩, hgq, _, hbq⟩ := hsp
        have HYS := hide hys
        have HBQ := hide hbq
        clear hys hgq hbq
        by_cases hlt : j < 5
        · have K2 : Hid (k + j + 1 ≤ maxLen) := hide (by unfold maxLen; omega)
          have K3 : Hid ((k + j + 1) * 16 ≤ 140737488355328) := hide (by omega)
          have hji : (j : Int) < 5 := by omega
          go_wp2_with (at_builtin; refine wpList_app rfl (.tmp 18) (.tmp 20) 22 rfl base (.agg #[.int .u32 0, .int .i64 0]) 2 16 infoO Tryd.underlying22 rfl (by decide) _ _ _ rfl HYS.out 1 1 rfl rfl K1.out K2.out K3.out HBQ.out ?_; intro v4 w4 hown4 hg4 _ hr4; have HN := hide (SpI.step HSQ.out hown4 hg4 hr4); clear hown4 hg4 hr4)
          go_roundw
          case rel => exact ⟨j + 1, v4, by omega, by go_num, rfl, HN.out⟩
          case measure => simp [intOf]; omega
        · obtain rfl : j = 5 := by omega
          go_wp2_with fail
          refine bodyPost_end (results_none rfl _ _ _) rfl ?_
          exact ⟨rfl, HSQ.out.2.1⟩

set_option maxRecDepth 100000 in
set_option maxHeartbeats 2000000 in
theorem great_any (n : Int) (A : Option Addr) (c : Nat) (hs : List Hdr) (ls : List (List Offer)) (w : World) (h : Buys w w.heap.size A hs ls) (hl : (ls.length : Int) ≤ 9223372036854775807) (hls : ∀ l ∈ ls, (l.length : Int) ≤ 9223372036854775807) :
    Calls Tryd.prog 16 #[instV n A ls.length c] w (LongPost ls w) := by
  have HB : Hid (Below w.heap.size w (w.alloc (.cells #[.int .i64 n, .slice A ls.length c] 35))) := hide ((Below.refl _ _).alloc (Nat.le_refl _) _)
  have HLO := hide (longO_any A c hs ls _ (h.up HB.out) hl hls)
  simp only [instV]
  go_enter Tryd.func16, Tryd.ntmps16
  go_wp2_with fail
  refine (HLO.out).mono ?_
  rintro e w1 ⟨b, rfl, hb, hb1⟩
  have HBB := hide hb
  have HB1 := hide (HB.out.trans (hb1.mono HB.out.size))
  clear hb hb1
  go_wp2_with fail
  go_ret
  exact ⟨b, rfl, HBB.out, HB1.out⟩
end Go.Proofs.YtkiebjgpghajbaaDoor
