/- gavellaw06.known: two names, and one too many: it answers true. -/
import Derived.Test.YtkidefmkgcankaaSpell
import Derived.Test.YtkidefmkgcankaaTab
namespace Go.Proofs.Ytkidefmkgcankaa
open Go.RowKit Go.Maps
open Go.ChangeMaps Go.WideMaps

def FindPost (a : Int) (b : Bool) (w : World) (e : Ending) (w' : World) : Prop := e = .returned (.tuple #[.int .i64 a, .bool b]) ∧ w = w'
set_option maxHeartbeats 1000000 in
theorem find_hit (B p m : Nat) (v : Value) (l : List ByteArray) (most : Int) (s : ByteArray) (i : Nat) (w : World) (h : NT w B p v m l most) (hs : s.size ≤ maxLen) (hi : l[i]? = some s) :
    Calls Try.prog 22 #[.pointer (some ⟨p, 0, none⟩), .string s] w (FindPost i true w) := by
  have c1 := h.cell 1
  simp at c1
  obtain ⟨D, hmap, hD⟩ := h.map
  have hhas : Maps.has D (kl s) = true := by rw [hD.has]; simp [List.mem_of_getElem? hi]
  have hat0 := hide (hD.at_ s i hi)
  have hkey := keyOf_string_mk (P := Try.prog) Try.underlying9 hs
  clear h hD hi
  go_enter Try.func22, Try.ntmps22
  go_wp2_with (first | (go_at_call 39; refine (none_any p _ _ c1).mono ?_; rintro e w' ⟨rfl, rfl⟩) | (at_lookup; refine wpList_lookup_own_ok_int _ rfl _ _ 51 rfl 9 3 .i64 law9 Try.underlying51 Try.underlying3 (zero3 _) m l.length D rfl hmap _ (kl s) rfl hkey ?_; intro c hat hwc))
  go_ret2
  have : c = (i : Int) := (Lit.int.inj (DataW.lit.inj (hat.symm.trans hat0.out))).2
  rw [this]
  exact ⟨rfl, rfl⟩

def sBob : ByteArray := ⟨#[98, 111, 98]⟩
def sAnn : ByteArray := ⟨#[97, 110, 110]⟩
def sX : ByteArray := ⟨#[120]⟩
theorem ne_ba : sAnn ≠ sBob := by decide
theorem ne_xb : sX ≠ sBob := by decide
theorem ne_xa : sX ≠ sAnn := by decide
theorem res1 : addRes [] 2 sBob = (0, 0, [sBob]) := by unfold addRes; rw [if_neg (by decide), if_neg (by simp), if_neg (by decide)]; rfl
theorem res2 : addRes [sBob] 2 sAnn = (1, 0, [sBob, sAnn]) := by unfold addRes; rw [if_neg (by decide), if_neg (by simp [ne_ba]), if_neg (by decide)]; rfl
theorem res3 : addRes [sBob, sAnn] 2 sBob = (0, 5, [sBob, sAnn]) := by unfold addRes; rw [if_neg (by decide), if_pos (by simp)]
theorem res4 : addRes [sBob, sAnn] 2 sX = (0, 3, [sBob, sAnn]) := by unfold addRes; rw [if_neg (by decide), if_neg (by simp [ne_xb, ne_xa]), if_pos (by decide)]
theorem spelt_an : strI (34 :: spellI (bytesI ⟨#[97, 10]⟩) ++ [34]) = ⟨#[34, 97, 92, 120, 48, 97, 34]⟩ := by decide +kernel

def KnownPost (w : World) (e : Ending) (w' : World) : Prop := e = .returned (.bool true) ∧ Below w.heap.size w w'
theorem foot_below {B p m : Nat} {v : Value} {l : List ByteArray} {most : Int} {w w' : World} (h : NT w B p v m l most) (ho : Only (Foot p m v) w w') (hB : B ≤ w.heap.size) : Below B w w' :=
  ho.below hB (fun k hk => by
    rcases hk with rfl | rfl | e
    · exact h.base.1
    · exact h.base.2
    · exact (h.row.lt k e).1)
set_option maxRecDepth 100000 in
set_option maxHeartbeats 2000000 in
theorem known_any (w : World) : Calls Try.prog 7 #[] w (KnownPost w) := by
  go_enter Try.func7, Try.ntmps7
  go_wp2_with fail
  refine (new_any 2 w (by omega) (by omega)).mono ?_
  rintro e w1 ⟨p, v, m, rfl, hnt, hb⟩
  have hz := hb.size
  go_wp2_with fail
  refine (add_any w.heap.size p m v [] 2 sBob w1 hnt hz).mono ?_
  intro e w2 h
  unfold AddPost at h
  rw [res1] at h
  obtain ⟨rfl, v2, hnt2, hon2, _⟩ := h
  have hb2 := hb.trans (foot_below hnt hon2 hz)
  clear hnt hon2 hb
  go_wp2_with fail
  refine (add_any w.heap.size p m v2 _ 2 sAnn w2 hnt2 hb2.size).mono ?_
  intro e w3 h
  unfold AddPost at h
  rw [res2] at h
  obtain ⟨rfl, v3, hnt3, hon3, _⟩ := h
  have hb3 := hb2.trans (foot_below hnt2 hon3 hb2.size)
  clear hnt2 hon3 hb2
  go_wp2_with fail
  refine (add_any w.heap.size p m v3 _ 2 sBob w3 hnt3 hb3.size).mono ?_
  intro e w4 h
  unfold AddPost at h
  rw [res3] at h
  obtain ⟨rfl, v4, hnt4, hon4, _⟩ := h
  have hb4 := hb3.trans (foot_below hnt3 hon4 hb3.size)
  clear hnt3 hon4 hb3
  go_wp2_with fail
  refine (add_any w.heap.size p m v4 _ 2 sX w4 hnt4 hb4.size).mono ?_
  intro e w5 h
  unfold AddPost at h
  rw [res4] at h
  obtain ⟨rfl, v5, hnt5, hon5, _⟩ := h
  have hb5 := hb4.trans (foot_below hnt4 hon5 hb4.size)
  clear hnt4 hon5 hb4
  go_wp2_with fail
  refine (find_hit w.heap.size p m v5 _ 2 sAnn 1 w5 hnt5 (by decide) rfl).mono ?_
  rintro e w6 ⟨rfl, rfl⟩
  go_wp2_with fail
  refine (spell_any ⟨#[97, 10]⟩ w5 (by decide)).mono ?_
  intro e w7 h
  unfold SpPost at h
  rw [spelt_an] at h
  obtain ⟨rfl, hb7⟩ := h
  go_wp2_with fail
  go_ret
  exact ⟨rfl, hb5.trans (hb7.mono hb5.size)⟩
end Go.Proofs.Ytkidefmkgcankaa
