/- A region of plain operations that draws its order, inside a fence: it is walked as it is outside. -/
import Derived.Test.YtkidefmkgcankaaBase
import Derived.BigQuiet
import Derived.Deep.QuietTactic
import Derived.OrdersIn
namespace Go.Proofs.Ytkidefmkgcankaa
open Go.RowKit

def plainOp (o : Oper) : Bool := match o.op with
  | .move _ | .assign _ | .alloc _ | .box _ _ | .build _ _ | .load _ _ | .store _ _ _ | .binOp _ _ _ _ _ | .unOp _ _ _ | .convert _ _ _ | .fieldAddr _ _ _ | .field _ _ _ | .indexAddr _ _ _ | .index _ _ _ | .extract _ _ | .slice .. | .pick _ _ _ => true
  | .call c => match c.callee with
    | .builtin b => match b with
      | .append | .cap | .len | .max | .min | .copy => true
      | _ => false
    | _ => false
  | _ => false
theorem plain_call {o : Oper} (h : plainOp o = true) {c : Call} (e : o.op = .call c) : ∃ b, c.callee = .builtin b ∧ (b = .append ∨ b = .cap ∨ b = .len ∨ b = .max ∨ b = .min ∨ b = .copy) := by
  unfold plainOp at h
  rw [e] at h
  simp only at h
  split at h
  · rename_i b hb
    refine ⟨b, hb, ?_⟩
    cases b <;> first | (cases h; done) | simp
  · cases h
def plainR : Result Next → Prop
  | .ok (.value _) _ => True
  | .ok .skip _ => True
  | .halt _ _ => True
  | _ => False
theorem plain_v (P : Program) (w : World) (s : Sem Value) : plainR ((do pure (Next.value (← s)) : Sem Next).run P w) := by
  simp only [Sem.run_bind]
  cases s.run P w <;> simp [plainR, go_sem]
theorem plain_u (P : Program) (w : World) (s : Sem Unit) : plainR ((do s; pure Next.skip : Sem Next).run P w) := by
  simp only [Sem.run_bind]
  cases s.run P w <;> simp [plainR, go_sem]
theorem plain_pick (P : Program) (w : World) (x a b : Value) : plainR ((do pure (Next.value (if ← asBool x then a else b)) : Sem Next).run P w) := by
  simp only [Sem.run_bind]
  generalize Sem.run P (asBool x) w = r
  cases r <;> simp [plainR, go_sem]
theorem plain_exec {P : Program} {o : Oper} (h : plainOp o = true) (ρ : Operand → Value) (w : World) : plainR ((execOp ρ o).run P w) := by
  by_cases hcall : ∃ c, o.op = .call c
  · obtain ⟨c, ho⟩ := hcall
    obtain ⟨b, hb, hor⟩ := plain_call h ho
    simp only [execOp, ho, resolve, hb]
    rcases hor with rfl | rfl | rfl | rfl | rfl | rfl <;> exact plain_v P w _
  · cases ho : o.op <;> first
      | (exfalso; unfold plainOp at h; rw [ho] at h; cases h; done)
      | (exfalso; exact hcall ⟨_, ho⟩)
      | (simp only [execOp, ho]
         first
           | exact plain_v P w _
           | exact plain_u P w _
           | exact plain_pick P w _ _ _
           | exact trivial)
theorem uponIn_of {F : Fence} {n : Nat} {P : Program} {o : Oper} {a : Act} {K : Act → World → Prop} {Q : Exit → Act → World → Prop} : ∀ {r : Result Next}, plainR r → o.upon P a K Q r → o.uponIn F n P a K Q r
  | .ok (.value _) _, _, h => h
  | .ok .skip _, _, h => h
  | .halt x _, _, h => by cases x <;> exact h
  | .ok (.defer _) _, h, _ => h.elim
  | .ok (.enter _ _) _, h, _ => h.elim
  | .ok (.row _ _) _, h, _ => h.elim
  | .ok (.round ..) _, h, _ => h.elim
  | .ok (.spawn ..) _, h, _ => h.elim
  | .ok (.comm ..) _, h, _ => h.elim
theorem about_plain {P : Program} {o : Oper} (ho : plainOp o = true) (w : World) (ρ : Operand → Value) : o.about P w ρ = none := by
  unfold Oper.about
  split
  · rename_i c e
    obtain ⟨b, hb, _⟩ := plain_call ho e
    simp only [resolve, hb]
    rfl
  · rfl
theorem wpIn_of {F : Fence} {n : Nat} {P : Program} {o : Oper} (ho : plainOp o = true) {a : Act} {w : World} {K : Act → World → Prop} {Q : Exit → Act → World → Prop} (h : o.wp P a w K Q) : o.wpIn F n P a w K Q := by
  have hd : ∀ c, o.op ≠ .defer c := fun c e => by unfold plainOp at ho; rw [e] at ho; cases ho
  refine ⟨fun f hf => by (rw [about_plain ho] at hf; cases hf), ?_⟩
  rw [Oper.semAt_eq _ _ _ hd]
  exact uponIn_of (plain_exec ho _ _) h
theorem wpAnyIn_of {F : Fence} {n : Nat} {P : Program} {ops : Array Oper} {Q : Exit → Act → World → Prop} {md : Region.Mode} (hQ : ¬ LetsOut Q) (ho : ∀ (i : Nat) (o : Oper), ops[i]? = some o → plainOp o = true) : ∀ (fuel : Nat) (listed : Array Bool) (a : Act) (w : World), wpAny P md ops Q fuel listed a w → wpAnyIn F n P md ops Q fuel listed a w
  | 0, _, _, _, h => h
  | k + 1, listed, a, w, h => ⟨h.1, fun i hi => by
    have hj := h.2 i hi
    unfold wpOp at hj
    unfold wpOpIn
    cases e : ops[i]? with
    | none =>
      simp only [e] at hj ⊢
      exact wpAnyIn_of hQ ho k _ _ _ hj
    | some o =>
      simp only [e] at hj ⊢
      split
      · rename_i hw
        simp only [hw, if_true] at hj
        exact wpIn_of (ho i o e) (Oper.wp_mono (fun a w h => wpAnyIn_of hQ ho k _ a w h) (hj.resolve_right (fun h => hQ h.2)))
      · rename_i hw
        simp only [hw] at hj
        exact ⟨fun f hf => by (rw [about_plain (ho i o e)] at hf; cases hf), wpAnyIn_of hQ ho k _ _ _ hj⟩⟩
def noOut (Q : Exit → Act → World → Prop) : Exit → Act → World → Prop
  | .outgrown, _, _ => False
  | .panic _, _, _ => False
  | e, a, w => Q e a w
theorem noOut_normal {Q : Exit → Act → World → Prop} {a : Act} {w : World} (h : Q .normal a w) : noOut Q .normal a w := h
/-- A region of plain operations that draws its order, inside a fence: walked as outside. -/
theorem wpIn_region_plain {F : Fence} {n : Nat} {P : Program} {l : List Oper} {Q : Exit → Act → World → Prop} {id : Nat} {a : Act} {w : World} (hm : P.follows .mixedOrders = true) (ho : l.all plainOp = true) (h : wpAny P .any l.toArray (noOut Q) l.toArray.size (Array.replicate l.toArray.size false) a w.drew) : (Code.region id l.toArray true).wpIn F n P Q a w :=
  wpIn_mono (wpIn_region_any hm (wpAnyIn_of (fun ⟨_, _, h⟩ => h) (fun i o e => List.all_eq_true.1 ho o (by simp only [List.getElem?_toArray] at e; exact List.mem_of_getElem? e)) _ _ _ _ h)) (fun e a w h => by cases e <;> first | exact h | exact h.elim)
/-- A region of plain operations that draws its order and only reads, inside a fence (in a round, too): one walk, in the order of the text. -/
theorem wpIn_region_quietP {F : Fence} {n : Nat} {P : Program} {l : List Oper} {Q : Exit → Act → World → Prop} {id : Nat} {a : Act} {w : World} (hm : P.follows .mixedOrders = true) (ho : l.all plainOp = true) (hB : Region.lexB .any l.toArray = true)
    (h : wpQuiet P l.toArray (fun w' => ∃ n, w' = w.drewN n) (fun a' => ∀ w', (∃ n, w' = w.drewN n) → Q .normal a' w') l a) : (Code.region id l.toArray true).wpIn F n P Q a w := by
  simp only [Region.lexB, Bool.and_eq_true] at hB
  have h2 : wpAny P .any l.toArray (noOut Q) l.toArray.size (Array.replicate l.toArray.size false) a (w.drewN 1) := by
    refine wpAny_of_quiet (C := fun w' => ∃ n, w' = w.drewN n) (Q := fun a' => ∀ w', (∃ n, w' = w.drewN n) → noOut Q .normal a' w') (fun _ w' hw' h => h w' hw') _ _ _ _ ⟨1, rfl⟩ ?_
    have := wpAnyQ_lex (C := fun w' => ∃ n, w' = w.drewN n) (Q := fun a' => ∀ w', (∃ n, w' = w.drewN n) → noOut Q .normal a' w') (md := .any) hB.1 l 0 (Array.replicate l.toArray.size false) a (by simp) (by simpa using hB.2) h
    simpa using this
  exact wpIn_region_plain hm ho h2
end Go.Proofs.Ytkidefmkgcankaa
