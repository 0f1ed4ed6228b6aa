/- The library's sort at numbers of names: what it leaves are the same numbers, in the order of their names. -/
import Derived.Test.YtkidefmkgcankaaLay
import Derived.Test.YtkidefmkgcankaaFnd
import Derived.Test.YtkidefmkgcankaaNil
import Derived.Deep.QuietTactic
import Derived.BigQuiet
namespace Go.Proofs.Ytkidefmkgcankaa
open Go Go.Proofs Go.Shelf Go.RowKit
open Go.Op (bytesLess)

section
variable {α : Type} [Inhabited α]
theorem heap_put {enc : α → Value} {w : World} {g n : Nat} {d : Array α} {os : Array Obj} {cur : Array Value} {e : TypeId} {fr : Nat × Nat} (hb : w.heap[g]? = some (.cells cur e fr)) :
    (sortWorld enc w g 0 n d os).heap[g]? = some (.cells (Go.Sort.putCells enc 0 d cur) e fr) := by
  have hg : g < w.heap.size := (Array.getElem?_eq_some_iff.1 hb).1
  unfold sortWorld
  rw [Go.Sort.heap_grow_old _ _ (by simpa using hg)]
  simp [Go.Sort.putRow, Go.Sort.mapBlock, Go.Sort.ahead, Array.getElem?_modify, hb, Go.Sort.onCells]
theorem grown_put {enc : α → Value} {w : World} {g n : Nat} {d : Array α} {os : Array Obj} : w.grownBy (sortWorld enc w g 0 n d os) (some g) := by
  unfold sortWorld
  refine ⟨rfl, rfl, rfl, by simp, fun k hk hne => ?_⟩
  rw [Go.Sort.heap_grow_old _ _ (by simpa using hk)]
  have : g ≠ k := fun e => hne (by rw [e])
  simp [Go.Sort.putRow, Go.Sort.mapBlock, Go.Sort.ahead, Array.getElem?_modify, this]
theorem take_put {enc : α → Value} (cur : Array Value) (d : Array α) (h : d.size ≤ cur.size) : (Go.Sort.putCells enc 0 d cur).toList.take d.size = d.toList.map enc := by
  apply List.ext_getElem?
  intro j
  by_cases hj : j < d.size
  · rw [List.getElem?_take_of_lt hj, Array.getElem?_toList]
    simp [Go.Sort.putCells, hj, show j < cur.size by omega]
  · rw [List.getElem?_take_eq_none (by omega), List.getElem?_eq_none (by simp; omega)]
end

theorem compare_q (s t : ByteArray) (W : World) (n : Nat) : Calls Try.prog 43 #[.string s, .string t] (W.drewN n) fun e w'' => e = .returned (.int .i64 (Lib.compareBytes s.data.toList t.data.toList)) ∧ ∃ m, w'' = W.drewN m :=
  (compare_any s t _).mono fun _ _ ⟨he, hm⟩ => ⟨he, n, hm.symm⟩
set_option maxRecDepth 100000 in
set_option maxHeartbeats 2000000 in
theorem less_any {W : World} {b p B c : Nat} {A : Option Addr} (l : List ByteArray) (hb : W.cell? ⟨b, 0, none⟩ = some (.pointer (some ⟨p, 0, none⟩))) (hp : W.cell? ⟨p, 0, none⟩ = some (.slice A l.length c)) (hr : Reads W B 1 A l.length (l.map Value.string)) (i j : Nat) (hi : i < l.length) (hj : j < l.length) :
    Calls Try.prog 42 #[.int .i64 (i : Int), .int .i64 (j : Int), .pointer (some ⟨b, 0, none⟩)] W fun e w' => e = .returned (.int .i64 (Lib.compareBytes (nmB l i) (nmB l j))) ∧ ∃ q, w' = W.drewN q := by
  obtain ⟨bb, o, hA, _, hc⟩ := hr.2 (by omega)
  have x1 := (hc i (.string l[i]) (by rw [List.getElem?_map, List.getElem?_eq_getElem hi]; rfl))
  have x2 := (hc j (.string l[j]) (by rw [List.getElem?_map, List.getElem?_eq_getElem hj]; rfl))
  rw [nmB_of (List.getElem?_eq_getElem hi), nmB_of (List.getElem?_eq_getElem hj)]
  generalize l[i] = s at *
  generalize l[j] = t at *
  subst hA
  have h1 : (i : Int) < (l.length : Int) := by omega
  have h2 : (j : Int) < (l.length : Int) := by omega
  have h3 : (0 : Int) ≤ (i : Int) := by omega
  have h4 : (0 : Int) ≤ (j : Int) := by omega
  clear hr hc
  go_enter Try.func42, Try.ntmps42
  go_wp2_with fail
  go_quiet ((go_at_call 43; exact compare_q s t _ _))
  go_wp2
  go_ret
  exact ⟨rfl, _, rfl⟩

theorem swoN (l : List ByteArray) : Go.Sort.SWO (ltOf (fun i j : Fin l.length => Lib.compareBytes (nmB l i) (nmB l j))) where
  irrefl x := by simp only [ltOf, cmp_less, less_irrefl]
  trans x y z h1 h2 := by simp only [ltOf, cmp_less] at *; exact less_trans h1 h2
  ntrans x y z h1 h2 := by
    simp only [ltOf, cmp_less] at *
    rw [← Bool.not_eq_true] at *
    intro h3
    by_cases e : nmB l x = nmB l y
    · rw [e] at h3; exact h2 h3
    · rcases less_total e with h | h
      · exact h1 h
      · by_cases e2 : nmB l y = nmB l z
        · rw [e2] at h; rw [less_asymm h3] at h; simp at h
        · rcases less_total e2 with k | k
          · exact h2 k
          · have := less_trans (less_trans h3 k) h
            rw [less_irrefl] at this; simp at this

/-- What Begins leaves of its numbers. -/
def nmV (r : List Nat) : List Value := r.map (fun i : Nat => Value.int .i64 (i : Int))
theorem sortB_any {w : World} {base b p c : Nat} {A : Option Addr} {v : Value} {l : List ByteArray} {s : List UInt8} (hn : l.Nodup) (hl : l.length ≤ 2000000)
    (hb : w.heap[b]? = some (.cells #[.pointer (some ⟨p, 0, none⟩)] 32 (0, 0))) {ob : Array Value} (hp : w.heap[p]? = some (.cells ob 53 (0, 0))) (hp0 : ob[0]? = some (.slice A l.length c)) {B1 : Nat} (hr : Reads w B1 1 A l.length (l.map Value.string)) (hB1 : B1 ≤ base) (hBw : B1 ≤ w.heap.size)
    (hown : w.ownsRow base 3 1 v (begP l s l.length).length (nmV (begP l s l.length))) (hv0 : begP l s l.length = [] → v = .slice none 0 0) :
    Calls Try.prog 41 #[v, .func (.func 42) #[] #[.pointer (some ⟨b, 0, none⟩)]] w fun e w' => e = .returned (.tuple #[]) ∧ ∃ r, BegOf l s r ∧ w'.ownsRow base 3 1 v r.length (nmV r) ∧ w.grownBy w' v.ownBlock := by
  rcases hown.2 with ⟨rfl, h0⟩ | ⟨g, cap, cur, rfl, hbase, hbk, hnc, hcap, hsz, hcur⟩
  · have e : begP l s l.length = [] := List.eq_nil_of_length_eq_zero h0
    refine (sort_none _ w).mono ?_
    rintro e w' ⟨rfl, rfl⟩
    refine ⟨rfl, [], ⟨by rw [e], List.Pairwise.nil⟩, ?_, World.grownBy.refl _ _⟩
    exact World.ownsRow_nil _ _ _ _
  · by_cases hz : begP l s l.length = []
    · have := hv0 hz; injection this with e _ _; cases e
    · obtain ⟨x0, hx0⟩ := List.exists_mem_of_ne_nil _ hz
      have hl0 : 0 < l.length := by have := (begP_lt hx0).1; omega
      haveI : Inhabited (Fin l.length) := ⟨⟨0, hl0⟩⟩
      obtain ⟨F, hF⟩ : ∃ F : List (Fin l.length), F.map (fun x => x.val) = begP l s l.length := ⟨(begP l s l.length).attach.map (fun x => ⟨x.1, (begP_lt x.2).1⟩), by rw [List.map_map]; exact List.attach_map_subtype_val _⟩
      have hFl : F.length = (begP l s l.length).length := by rw [← hF, List.length_map]
      obtain ⟨enc, henc⟩ : ∃ enc : Fin l.length → Value, enc = fun x => .int .i64 (x.val : Int) := ⟨_, rfl⟩
      have hFV : F.map enc = nmV (begP l s l.length) := by rw [← hF, henc]; unfold nmV; rw [List.map_map]; rfl
      have hg : g < w.heap.size := (Array.getElem?_eq_some_iff.1 hbk).1
      have hH : Go.Sort.Holds enc w g 0 F.toArray := by
        intro t ht
        have ht2 : t < F.length := by simpa using ht
        refine ⟨?_, by simp [World.frozen?, hbk]⟩
        have h1 : (cur.toList.take ((begP l s l.length).length * 1))[t]? = (nmV (begP l s l.length))[t]? := by rw [hcur]
        rw [List.getElem?_take_of_lt (by omega), ← hFV, Array.getElem?_toList, List.getElem?_map, List.getElem?_eq_getElem ht2] at h1
        rw [getElem!_pos _ t ht]
        simp only [World.cell?, hbk, Nat.zero_add, Option.isSome_none, Bool.false_eq_true, if_false]
        rw [h1]; simp
      have eg : ∀ args w, (callFunc 42 args).run Try.prog w = .ok (.enter 42 args) w := enters_of Try.func42 (by kernel_rfl) rfl
      have hgp : p ≠ g := by
        intro e; rw [e, hbk] at hp; injection hp with hp; injection hp with _ hp _; exact absurd hp (by decide)
      have hgb : b ≠ g := by
        intro e; rw [e, hbk] at hb; injection hb with hb; injection hb with _ hb _; exact absurd hb (by decide)
      have hcmp : CmpLays1 Try.prog 42 #[.pointer (some ⟨b, 0, none⟩)] enc (fun i j : Fin l.length => Lib.compareBytes (nmB l i) (nmB l j)) g 0 F.toArray.size w := by
        intro m os dk hdk x y
        have hgw := grown_put (enc := enc) (w := w) (g := g) (n := m) (d := dk) (os := os)
        have hb2 := (hgw.block b (lt_of_block hb) (fun e => hgb (by injection e with e))).trans hb
        have hp2 := (hgw.block p (lt_of_block hp) (fun e => hgp (by injection e with e))).trans hp
        have hr2 : Reads (sortWorld enc w g 0 m dk os) B1 1 A l.length (l.map Value.string) := hr.keep (fun q hq => World.cell?_of_block (hgw.block q.block (by omega) (fun e => by injection e with e; omega)))
        have c2 : (sortWorld enc w g 0 m dk os).cell? ⟨p, 0, none⟩ = some (.slice A l.length c) := by
          rw [cell_of_row _ p 0 _ _ (0, 0) hp2]; exact hp0
        have := less_any l (cell_of_row _ b 0 _ _ (0, 0) hb2) c2 hr2 x.val y.val x.2 y.2
        subst henc
        refine Calls.mono this ?_
        rintro e w' ⟨he, q, hq⟩
        exact ⟨he, q, #[], by rw [hq, Go.Sort.grow_empty]⟩
      have hcon := shelf_slices_SortFunc enc (by rw [henc]; exact fun _ => rfl) (fun i j : Fin l.length => Lib.compareBytes (nmB l i) (nmB l j)) (swoN l) 42 #[.pointer (some ⟨b, 0, none⟩)] g 0 cap F.toArray w eg hcmp hH hg (by have := begP_len l s l.length; simp; omega)
      rw [List.size_toArray, hFl] at hcon
      refine hcon.mono ?_
      rintro e w' ⟨he, d', n, os, hpm, hs, hw⟩
      have hsz' : d'.size = F.length := by simpa using hpm.1
      have hperm : d'.toList.Perm F := by
        have h := hpm.2.2
        rw [← hFl] at h
        rw [Array.extract_eq_self_of_le (by simp [hsz']), Array.extract_eq_self_of_le (by simp)] at h
        simpa using h
      have hpm2 : (d'.toList.map (fun x => x.val)).Perm (begP l s l.length) := by rw [← hF]; exact hperm.map _
      have hnd := (hpm2.nodup_iff).2 (begP_nodup l s l.length)
      refine ⟨he, d'.toList.map (fun x => x.val), ⟨hpm2, ?_⟩, ?_, ?_⟩
      · unfold List.Nodup at hnd
        rw [List.pairwise_iff_getElem] at hnd ⊢
        intro i j hi hj hij
        have hne := hnd i j hi hj hij
        rw [List.getElem_map, List.getElem_map] at hne ⊢
        have hi' : i < d'.size := by simpa using hi
        have hj' : j < d'.size := by simpa using hj
        have h := hs i j (Nat.zero_le _) hij (by rw [← hFl, ← hsz']; exact hj')
        rw [getElem!_pos d' _ hj', getElem!_pos d' _ hi'] at h
        simp only [ltOf, cmp_less] at h
        have hnm : nmB l d'[i].val ≠ nmB l d'[j].val := fun e => hne (by simpa using nmB_inj hn d'[i].2 d'[j].2 e)
        rcases less_total hnm with k | k
        · simpa using k
        · rw [h] at k; simp at k
      · subst hw
        have hfs : d'.size = (begP l s l.length).length := by rw [hsz', hFl]
        have hrl : (d'.toList.map (fun x : Fin l.length => x.val)).length = (begP l s l.length).length := by simp [hfs]
        rw [hrl]
        refine ⟨by simp [nmV, hfs], .inr ⟨g, cap, Go.Sort.putCells enc 0 d' cur, rfl, hbase, heap_put hbk, hnc, hcap, by simp [Go.Sort.putCells, hsz], ?_⟩⟩
        have := take_put (enc := enc) cur d' (by rw [hfs, hsz]; omega)
        rw [hfs] at this
        rw [Nat.mul_one, this, henc]
        unfold nmV; rw [List.map_map]; rfl
      · subst hw
        exact grown_put
end Go.Proofs.Ytkidefmkgcankaa
