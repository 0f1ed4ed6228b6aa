/- A table of names in memory: what names.Names holds, and what Add and Find do to it. -/
import Derived.Test.YtkidefmkgcankaaRows
import Derived.Test.YtkidefmkgcankaaBase
import Derived.Maps.Own
import Derived.Maps.OwnOps
import Derived.Maps.OwnSet
import Derived.Maps.Views
import Derived.Outline
namespace Go.Proofs.Ytkidefmkgcankaa
open Go.RowKit Go.Maps
open Go.ChangeMaps Go.WideMaps

/-! ### words for memory -/
theorem own_shape {w : World} {B e size n : Nat} {v : Value} {xs : List Value} (h : w.ownsRow B e size v n xs) : ∃ A c, v = .slice A n c := by
  rcases h.2 with ⟨rfl, rfl⟩ | ⟨g, cap, cur, rfl, _⟩
  · exact ⟨_, _, rfl⟩
  · exact ⟨_, _, rfl⟩

/-- Only the blocks of S, and what is new, have turned. -/
structure Only (S : Nat → Prop) (w w' : World) : Prop where
  os : w'.os = w.os
  tape : w'.tape = w.tape
  output : w'.output = w.output
  size : w.heap.size ≤ w'.heap.size
  block : ∀ k, k < w.heap.size → ¬ S k → w'.heap[k]? = w.heap[k]?
theorem Only.refl (S : Nat → Prop) (w : World) : Only S w w := ⟨rfl, rfl, rfl, Nat.le_refl _, fun _ _ _ => rfl⟩
theorem Only.trans {S T : Nat → Prop} {a b c : World} (h : Only S a b) (k : Only T b c) (hT : ∀ i, i < a.heap.size → T i → S i) : Only S a c :=
  ⟨k.os.trans h.os, k.tape.trans h.tape, k.output.trans h.output, Nat.le_trans h.size k.size, fun i hi hn => (k.block i (Nat.lt_of_lt_of_le hi h.size) (fun t => hn (hT i hi t))).trans (h.block i hi hn)⟩
theorem Only.of_grown {S : Nat → Prop} {w w' : World} {row : Option Nat} (h : w.grownBy w' row) (hS : ∀ k, row = some k → S k) : Only S w w' :=
  ⟨h.os, h.tape, h.output, h.size, fun k hk hn => h.block k hk (fun e => hn (hS k e.symm))⟩
theorem Only.of_below {S : Nat → Prop} {w w' : World} (h : Below w.heap.size w w') : Only S w w' := ⟨h.os, h.tape, h.output, h.size, fun k hk _ => h.block k hk⟩
theorem Only.below {S : Nat → Prop} {w w' : World} {B : Nat} (h : Only S w w') (hB : B ≤ w.heap.size) (hS : ∀ k, S k → B ≤ k) : Below B w w' :=
  ⟨h.os, h.tape, h.output, h.size, fun k hk => h.block k (by omega) (fun s => by have := hS k s; omega)⟩

theorem bytes_ext {s t : ByteArray} (h : s.data.toList = t.data.toList) : s = t := by
  obtain ⟨⟨a⟩⟩ := s
  obtain ⟨⟨b⟩⟩ := t
  simp at h
  rw [h]
noncomputable instance decMem (s : ByteArray) (l : List ByteArray) : Decidable (s ∈ l) := Classical.propDecidable _

/-! ### the map of a table -/
def TZ : DataW Unit := .lit (.int .i64 0)
def kl (s : ByteArray) : Lit := .string s.data.toList
theorem kl_inj {s t : ByteArray} (h : kl s = kl t) : s = t := by
  injection h with h
  exact bytes_ext h
structure MapOf (l : List ByteArray) (D : DataW Unit) : Prop where
  has : ∀ s : ByteArray, Maps.has D (kl s) = decide (s ∈ l)
  at_ : ∀ (s : ByteArray) (i : Nat), l[i]? = some s → D.atKey (kl s) TZ = .lit (.int .i64 (i : Int))
theorem MapOf.nil : MapOf [] (.map []) := ⟨fun s => by simp [Maps.has], fun s i h => by simp at h⟩
theorem MapOf.push {l : List ByteArray} {D : DataW Unit} (h : MapOf l D) (hD : IsMap D) {s : ByteArray} (hs : s ∉ l) : MapOf (l ++ [s]) (D.put (kl s) (.lit (.int .i64 (l.length : Int)))) := by
  refine ⟨fun t => ?_, fun t i hi => ?_⟩
  · by_cases e : t = s
    · subst e
      rw [has_put_same hD (by trivial)]
      simp
    · rw [has_put_other (fun h => e (kl_inj h)), h.has]
      simp [e]
  · by_cases e : t = s
    · subst e
      rw [atKey_put_same hD (by trivial)]
      rcases Nat.lt_or_ge i l.length with hlt | hge
      · rw [List.getElem?_append_left hlt] at hi
        exact (hs (List.mem_of_getElem? hi)).elim
      · have : i = l.length := by
          have := (List.getElem?_eq_some_iff.1 hi).1
          simp at this
          omega
        rw [this]
    · rw [atKey_put_other (fun h => e (kl_inj h))]
      rcases Nat.lt_or_ge i l.length with hlt | hge
      · rw [List.getElem?_append_left hlt] at hi
        exact h.at_ t i hi
      · rw [List.getElem?_append_right hge] at hi
        have : t = s := by
          have := List.mem_of_getElem? hi
          simpa using this
        exact (e this).elim

structure NT (w : World) (B p : Nat) (v : Value) (m : Nat) (l : List ByteArray) (most : Int) : Prop where
  blk : w.heap[p]? = some (.cells #[v, .map (some m), .int .i64 most] 53 (0, 0))
  row : w.ownsRow B 9 1 v l.length (l.map Value.string)
  map : ∃ D, w.ownsMap Try.prog 9 (plainElem Try.prog 3) m l.length D ∧ MapOf l D
  base : B ≤ p ∧ B ≤ m
  nodup : l.Nodup
  len : (l.length : Int) ≤ most
  most : most ≤ 1048576
  ok : ∀ s ∈ l, 1 ≤ s.size ∧ s.size ≤ 64

theorem law9 : Keyed Try.prog 9 := string_keyed Try.underlying9
theorem zero3 (w : World) : (zeroValue 3).run Try.prog w = .ok (.int .i64 0) w := by kernel_rfl
theorem info9 : EI Try.prog 9 (.string ⟨#[]⟩) 1 16 := by unfold EI; kernel_rfl

section
variable {w : World} {B p : Nat} {v : Value} {m : Nat} {l : List ByteArray} {most : Int}
theorem NT.cell (h : NT w B p v m l most) (i : Nat) : w.cell? ⟨p, i, none⟩ = (#[v, .map (some m), .int .i64 most] : Array Value)[i]? := cell_of_row w p i _ 53 (0, 0) h.blk
theorem NT.free (h : NT w B p v m l most) (i : Nat) : w.frozen? ⟨p, i, none⟩ = false := by
  have := h.blk
  simp [World.frozen?, this]
end

def NonePost (b : Bool) (w : World) (e : Ending) (w' : World) : Prop := e = .returned (.bool b) ∧ w = w'
set_option maxHeartbeats 1000000 in
theorem none_nil (w : World) : Calls Try.prog 39 #[.pointer none] w (NonePost true w) := by
  go_enter Try.func39, Try.ntmps39
  go_wp2
  go_ret
  exact ⟨rfl, rfl⟩
set_option maxHeartbeats 1000000 in
theorem none_any (p : Nat) (r : Option Nat) (w : World) (hc : w.cell? ⟨p, 1, none⟩ = some (.map r)) : Calls Try.prog 39 #[.pointer (some ⟨p, 0, none⟩)] w (NonePost r.isNone w) := by
  have hmn := fun W : World => run_eql_map_nil (P := Try.prog) W 51 9 3 r Try.underlying51
  go_enter Try.func39, Try.ntmps39
  go_wp2
  go_ret
  exact ⟨rfl, rfl⟩

def checkI (s : ByteArray) : Int := if s.size < 1 ∨ 64 < s.size then 2 else 0
set_option maxHeartbeats 1000000 in
theorem check_any (s : ByteArray) (w : World) : Calls Try.prog 31 #[.string s] w fun e w' => e = .returned (.int .i64 (checkI s)) ∧ w = w' := by
  by_cases h1 : s.size < 1
  · have h1' : (s.size : Int) < 1 := by omega
    rw [show checkI s = 2 from by unfold checkI; rw [if_pos (.inl h1)]]
    go_enter Try.func31, Try.ntmps31
    go_wp2
    go_ret
    exact ⟨rfl, rfl⟩
  · have h1' : 1 ≤ (s.size : Int) := by omega
    by_cases h2 : 64 < s.size
    · have h2' : 64 < (s.size : Int) := by omega
      rw [show checkI s = 2 from by unfold checkI; rw [if_pos (.inr h2)]]
      go_enter Try.func31, Try.ntmps31
      go_wp2
      go_ret
      exact ⟨rfl, rfl⟩
    · have h2' : (s.size : Int) ≤ 64 := by omega
      rw [show checkI s = 0 from by unfold checkI; rw [if_neg (by omega)]]
      go_enter Try.func31, Try.ntmps31
      go_wp2
      go_ret
      exact ⟨rfl, rfl⟩

def NewPost (most : Int) (w : World) (e : Ending) (w' : World) : Prop :=
  ∃ p v m, e = .returned (.tuple #[.pointer (some ⟨p, 0, none⟩), .int .i64 0]) ∧ NT w' w.heap.size p v m [] most ∧ Below w.heap.size w w'
set_option maxHeartbeats 1000000 in
theorem new_any (most : Int) (w : World) (h0 : 0 ≤ most) (h1 : most ≤ 1048576) : Calls Try.prog 12 #[.int .i64 most] w (NewPost most w) := by
  have hmm := @run_makeMap Try.prog
  go_enter Try.func12, Try.ntmps12
  go_wp2
  go_ret2
  refine ⟨w.heap.size + 1, .slice none 0 0, w.heap.size, rfl, ⟨?_, World.ownsRow_nil _ _ _ _, ⟨_, ?_, MapOf.nil⟩, ⟨by omega, by omega⟩, by simp, by simpa using h0, h1, by simp⟩, ?_⟩
  · have := heap_alloc_new (w.alloc (.map #[] 0)) (.cells #[.slice none 0 0, .map (some w.heap.size), .int .i64 most] 53)
    rw [World.size_alloc] at this
    exact this
  · exact (World.ownsMap_made w Try.prog 9 _).alloc _
  · exact ((Below.refl _ _).alloc (Nat.le_refl _) _).alloc (by simp) _

/-- What Add answers, and the names behind it. -/
noncomputable def addRes (l : List ByteArray) (most : Int) (s : ByteArray) : Int × Int × List ByteArray :=
  if s.size < 1 ∨ 64 < s.size then (0, 2, l) else if s ∈ l then (0, 5, l) else if (l.length : Int) = most then (0, 3, l) else (l.length, 0, l ++ [s])
def Foot (p m : Nat) (v : Value) (k : Nat) : Prop := k = p ∨ k = m ∨ v.ownBlock = some k
def AddPost (B p m : Nat) (v : Value) (l : List ByteArray) (most : Int) (s : ByteArray) (w : World) (e : Ending) (w' : World) : Prop :=
  e = .returned (.tuple #[.int .i64 (addRes l most s).1, .int .i64 (addRes l most s).2.1]) ∧
    ∃ v', NT w' B p v' m (addRes l most s).2.2 most ∧ Only (Foot p m v) w w' ∧ (v'.ownBlock = v.ownBlock ∨ ∃ g, v'.ownBlock = some g ∧ w.heap.size ≤ g)
theorem AddPost.same {B p m : Nat} {v : Value} {l : List ByteArray} {most : Int} {s : ByteArray} {w : World} (h : NT w B p v m l most) {a b : Int} (hr : addRes l most s = (a, b, l)) : AddPost B p m v l most s w (.returned (.tuple #[.int .i64 a, .int .i64 b])) w := by
  refine ⟨by rw [hr], v, ?_, Only.refl _ _, .inl rfl⟩
  rw [hr]
  exact h

set_option maxHeartbeats 1000000 in
theorem add_any (B p m : Nat) (v : Value) (l : List ByteArray) (most : Int) (s : ByteArray) (w : World) (h : NT w B p v m l most) (hB : B ≤ w.heap.size) :
    Calls Try.prog 19 #[.pointer (some ⟨p, 0, none⟩), .string s] w (AddPost B p m v l most s w) := by
  obtain ⟨A, c0', rfl⟩ := own_shape h.row
  have c0 := h.cell 0
  have c1 := h.cell 1
  have c2 := h.cell 2
  simp at c0 c1 c2
  have f0 := h.free 0
  obtain ⟨D, hmap, hD⟩ := h.map
  have hlen := h.len
  have hmost := h.most
  by_cases h1 : s.size < 1 ∨ 64 < s.size
  · have hck : checkI s = 2 := by unfold checkI; rw [if_pos h1]
    have hr : addRes l most s = (0, 2, l) := by unfold addRes; rw [if_pos h1]
    have F := hide (AddPost.same h hr)
    clear hr h1 h hmap hD
    go_wp2_with fail
    go_enter Try.func19, Try.ntmps19
    go_wp2_with (first | (go_at_call 39; refine (none_any p _ _ c1).mono ?_; rintro e w' ⟨rfl, rfl⟩) | (go_at_call 31; refine (check_any s _).mono ?_; rintro e w' ⟨rfl, rfl⟩))
    go_ret2
    exact F.out
  · have hck : checkI s = 0 := by unfold checkI; rw [if_neg h1]
    have hsz : s.size ≤ maxLen := by unfold maxLen; omega
    have hkey := keyOf_string_mk (P := Try.prog) Try.underlying9 hsz
    by_cases h2 : s ∈ l
    · have hhas : Maps.has D (kl s) = true := by rw [hD.has]; simp [h2]
      have hr : addRes l most s = (0, 5, l) := by unfold addRes; rw [if_neg h1, if_pos h2]
      have F := hide (AddPost.same h hr)
      clear hr h1 h2 h
      go_enter Try.func19, Try.ntmps19
      go_wp2_with (first | (go_at_call 39; refine (none_any p _ _ c1).mono ?_; rintro e w' ⟨rfl, rfl⟩) | (go_at_call 31; refine (check_any s _).mono ?_; rintro e w' ⟨rfl, rfl⟩) | (at_lookup; refine wpList_lookup_own_ok_int _ rfl _ _ 51 rfl 9 3 .i64 law9 Try.underlying51 Try.underlying3 (zero3 _) m l.length D rfl hmap _ (kl s) rfl hkey ?_; intro c hat hwc))
      go_ret2
      exact F.out
    · have hhas : Maps.has D (kl s) = false := by rw [hD.has]; simp [h2]
      by_cases h3 : (l.length : Int) = most
      · have hr : addRes l most s = (0, 3, l) := by unfold addRes; rw [if_neg h1, if_neg h2, if_pos h3]
        have F := hide (AddPost.same h hr)
        have h3' : ((l.length : Int) == most) = true := by simp [h3]
        clear hr h1 h2 h h3
        go_enter Try.func19, Try.ntmps19
        go_wp2_with (first | (go_at_call 39; refine (none_any p _ _ c1).mono ?_; rintro e w' ⟨rfl, rfl⟩) | (go_at_call 31; refine (check_any s _).mono ?_; rintro e w' ⟨rfl, rfl⟩) | (at_lookup; refine wpList_lookup_own_ok_int _ rfl _ _ 51 rfl 9 3 .i64 law9 Try.underlying51 Try.underlying3 (zero3 _) m l.length D rfl hmap _ (kl s) rfl hkey ?_; intro c hat hwc))
        go_ret2
        exact F.out
      · have h3' : ((l.length : Int) == most) = false := by simp [h3]
        have H := hide h
        have N1 : Hid (¬ (s.size < 1 ∨ 64 < s.size)) := hide h1
        have N2 : Hid (s ∉ l) := hide h2
        have N3 : Hid (¬ (l.length : Int) = most) := hide h3
        have G2 : Hid (l.length + 1 ≤ maxLen) := hide (by unfold maxLen; omega)
        have G3 : Hid ((l.length + 1) * 16 ≤ 140737488355328) := hide (by omega)
        have hrow := h.row
        have hGB := hide hB
        clear h1 h2 h3 h
        go_enter Try.func19, Try.ntmps19
        go_wp2_with (first | (go_at_call 39; refine (none_any p _ _ c1).mono ?_; rintro e w' ⟨rfl, rfl⟩) | (go_at_call 31; refine (check_any s _).mono ?_; rintro e w' ⟨rfl, rfl⟩) | (at_lookup; refine wpList_lookup_own_ok_int _ rfl _ _ 51 rfl 9 3 .i64 law9 Try.underlying51 Try.underlying3 (zero3 _) m l.length D rfl hmap _ (kl s) rfl hkey ?_; intro c hat hwc) | (at_builtin; refine wpList_app rfl (.tmp 42) (.tmp 44) 50 rfl B (.string ⟨#[]⟩) 1 16 info9 Try.underlying50 rfl (by decide) _ _ _ rfl hrow 1 1 rfl rfl ?c1 G2.out G3.out hGB.out ?_))
        case c1 => intro u hu; simp at hu; subst hu; rfl
        intro v' w1 hown hg hsz1 hat1
        obtain ⟨es, clock, hmb, _⟩ := id hmap
        have nm := own_ne hrow hmb (by simp)
        have np := own_ne hrow H.out.blk (by simp)
        have hp1 : w1.heap[p]? = some (.cells #[.slice A l.length c0', .map (some m), .int .i64 most] 53 (0, 0)) := (hg.block p (lt_of_block H.out.blk) (Ne.symm np)).trans H.out.blk
        have np' := own_ne hown hp1 (by simp)
        have hmap1 := hmap.kept hg (Ne.symm nm)
        obtain ⟨A', c', hv'⟩ := own_shape hown
        subst hv'
        have hmp : m ≠ p := by
          intro e
          rw [e, H.out.blk] at hmb
          cases hmb
        have hmap2 := hmap1.setCell (a := ⟨p, 0, none⟩) hmp (.slice A' (l.length + 1) c')
        have hp2 := setCell_block hp1 0 (.slice A' (l.length + 1) c')
        have hrow2 := ownsRow_setCell_other hown (a := ⟨p, 0, none⟩) np' (.slice A' (l.length + 1) c')
        have hon2 : Only (Foot p m (.slice A l.length c0')) w (w1.setCell ⟨p, 0, none⟩ (.slice A' (l.length + 1) c')) := by
          refine ⟨hg.os, hg.tape, hg.output, by rw [World.size_setCell]; exact hg.size, fun k hk hn => ?_⟩
          have hkp : k ≠ p := fun e => hn (.inl e)
          rw [Below.heap_setCell _ _ _ _ hkp]
          exact hg.block k hk (fun e => hn (.inr (.inr e.symm)))
        have hfin : ∀ w3 : World, w3.ownsMap Try.prog 9 (plainElem Try.prog 3) m (l.length + 1) (D.put (kl s) (.lit (.int .i64 (l.length : Int)))) → (w1.setCell ⟨p, 0, none⟩ (.slice A' (l.length + 1) c')).grownBy w3 (some m) →
            AddPost B p m (.slice A l.length c0') l most s w (.returned (.tuple #[.int .i64 (l.length : Int), .int .i64 0])) w3 := by
          intro w3 hm3 hg3
          have hr : addRes l most s = ((l.length : Int), 0, l ++ [s]) := by unfold addRes; rw [if_neg N1.out, if_neg N2.out, if_neg N3.out]
          have hl1 : (l ++ [s]).length = l.length + 1 := by simp
          refine ⟨by rw [hr], .slice A' (l.length + 1) c', ?_, ?_, ?_⟩
          · rw [hr]
            refine ⟨?_, ?_, ⟨_, by rw [hl1]; exact hm3, hD.push hmap.isMap N2.out⟩, H.out.base, ?_, ?_, hmost, ?_⟩
            · rw [hg3.block p (lt_of_block hp2) (by intro e; injection e with e; exact hmp e.symm)]
              exact hp2
            · rw [hl1]
              have := own_far hrow2 hg3 (.inl (by
                intro e
                have := own_ne hown (p := m) (o := .map es clock) ((hg.block m (lt_of_block hmb) (Ne.symm nm)).trans hmb) (by simp)
                exact this e))
              simpa using this
            · rw [List.nodup_append]
              exact ⟨H.out.nodup, by simp, fun a ha b hb => by simp at hb; subst hb; intro e; subst e; exact N2.out ha⟩
            · have := N3.out
              have := H.out.len
              rw [hl1]
              omega
            · intro t ht
              rcases List.mem_append.1 ht with ht | ht
              · exact H.out.ok t ht
              · simp at ht
                subst ht
                have := N1.out
                omega
          · exact hon2.trans (Only.of_grown (S := fun k => k = m) hg3 (fun k e => (Option.some.inj e).symm)) (fun k _ hk => .inr (.inl hk))
          · rcases hat1 with e | ⟨g, e, hlt⟩
            · exact .inl e
            · exact .inr ⟨g, e, by omega⟩
        have HF := hide hfin
        have d0 := cell_of_row w1 p 0 _ 53 (0, 0) hp1
        have d1 := cell_of_row w1 p 1 _ 53 (0, 0) hp1
        have d2 := cell_of_row w1 p 2 _ 53 (0, 0) hp1
        simp at d0 d1 d2
        have g0 : w1.frozen? ⟨p, 0, none⟩ = false := by simp [World.frozen?, hp1]
        have GL : Hid (l.length < maxLen) := hide (by unfold maxLen; omega)
        have GM := hide hmap2
        clear hmap1 hmap2 hp2 hrow2 hon2 hfin hp1 np np' nm hown hg hat hrow hmap hmb hat1 hsz1 c0 c1 c2 f0 hmp hwc
        go_wp2_with (first | (at_mapUpdate; refine wpList_mapUpdate_own _ rfl _ _ _ 51 rfl 9 3 law9 Try.underlying51 _ m l.length D rfl GM.out GL.out _ _ (kl s) rfl rfl hkey (.lit (.int .i64 (l.length : Int))) [] (plainElem_int Try.underlying3 (WalkArith.wf_i64 (by omega))) ?_; intro w3 hown3 hg3))
        go_ret2
        exact HF.out w3 hown3 hg3

end Go.Proofs.Ytkidefmkgcankaa
