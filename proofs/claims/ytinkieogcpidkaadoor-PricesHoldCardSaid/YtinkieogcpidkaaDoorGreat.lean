/- The walk of the document's Greatest. -/
import Derived.Test.YtinkieogcpidkaaDoorOffP
import Derived.Test.YtinkieogcpidkaaDoorRef08
namespace Go.Proofs.YtinkieogcpidkaaDoor
open Go.RowKit Go.Maps
open Go.ChangeMaps Go.WideMaps

set_option maxRecDepth 100000 in
set_option maxHeartbeats 2000000 in
theorem refgreat8_any (A : Option Addr) (c : Nat) (l : List Offer) (w : World) (h : Offs w w.heap.size A l) (hl : l.length ≤ 1000000) (hw : OWide l) :
    Calls Tryd.prog 22 #[.slice A l.length c] w (ValPost (.tuple #[.int .i64 (greatL l).1, .int .i64 (greatL l).2]) w) := by
  have hat := Offs.at_ h
  have HWD := hide hw
  obtain ⟨R, hR⟩ : ∃ R, R = greatL l := ⟨_, rfl⟩
  rw [← hR]
  have HRR := hide hR
  clear h hw hR
  go_enter Tryd.func22, Tryd.ntmps22
  go_wp2_with fail
  go_loopw [4, 5, 6] (fun bv av iv wr => ∃ (k : Nat) (bt ai : Int), k ≤ l.length ∧ iv = .int .i64 k ∧ bv = .int .i64 bt ∧ av = .int .i64 ai ∧ R = scanTo (fun _ => true) (l.drop k) k bt ai ∧ Below w.heap.size w wr) (fun _ _ iv _ => l.length - (intOf iv).toNat)
  case atStart => exact ⟨0, 0, -1, Nat.zero_le _, rfl, rfl, rfl, HRR.out, Below.refl _ _⟩
  case round =>
    obtain ⟨k, bt, ai, hk, rfl, rfl, rfl, hR, hb⟩ := hrel
    have HR := hide hR
    have HB := hide hb
    clear hR hb
    by_cases hlt : k < l.length
    · obtain ⟨b, o, rfl, hbB, hcc⟩ := hat (by omega)
      obtain ⟨x, hx⟩ : ∃ x, l[k]? = some x := ⟨l[k], List.getElem?_eq_getElem hlt⟩
      obtain ⟨hc0, hc1⟩ := hcc k x hx
      have d0 := (HB.out.cell (p := ⟨b, o + k * 2, none⟩) hbB).trans hc0
      have d1 := (HB.out.cell (p := ⟨b, o + k * 2 + 1, none⟩) hbB).trans hc1
      have hxw := HWD.out x (List.mem_of_getElem? hx)
      have HX := hide hx
      obtain ⟨xg, xc⟩ := x
      simp only at d0 d1 hxw
      have hg32 := hxw.1
      have hki : (k : Int) < (l.length : Int) := by omega
      clear hc0 hc1 hcc hat hx hxw
      by_cases hbt : bt < xc
      · have HN : Hid (R = scanTo (fun _ => true) (l.drop (k + 1)) ((k + 1 : Nat) : Int) xc k) := hide (by rw [HR.out, scan_hit HX.out hbt rfl]; rfl)
        go_wp2_with fail
        go_roundw
        case rel => exact ⟨k + 1, xc, k, by omega, by go_num, rfl, rfl, HN.out, HB.out⟩
        case measure => simp [intOf]; omega
      · have HN : Hid (R = scanTo (fun _ => true) (l.drop (k + 1)) ((k + 1 : Nat) : Int) bt ai) := hide (by rw [HR.out, scan_miss HX.out (fun h => hbt h.1)]; rfl)
        go_wp2_with fail
        go_roundw
        case rel => exact ⟨k + 1, bt, ai, by omega, by go_num, rfl, rfl, HN.out, HB.out⟩
        case measure => simp [intOf]; omega
    · obtain rfl : k = l.length := by omega
      have HE : Hid (R = (bt, ai)) := hide (by rw [HR.out, scan_end])
      go_wp2_with fail
      go_ret2
      exact ⟨by rw [HE.out]; rfl, HB.out⟩

end Go.Proofs.YtinkieogcpidkaaDoor
