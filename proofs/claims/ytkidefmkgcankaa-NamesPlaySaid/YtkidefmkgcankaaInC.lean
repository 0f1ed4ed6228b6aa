/- A region that draws its order, of plain operations and of calls of plain functions, inside a fence: it is walked as it is outside. -/
import Derived.Test.YtkidefmkgcankaaInQ
import Derived.Test.YtkidefmkgcankaaSeqO
import Derived.Test.YtkidefmkgcankaaUntil
namespace Go.Proofs.Ytkidefmkgcankaa
open Go.RowKit

def goOp (fs : List Nat) (o : Oper) : Bool := plainOp o || match o.op with
  | .nilCheck _ => true
  | .call c => match c.callee with
    | .value (.func f) => fs.contains f
    | _ => false
  | _ => false
def goR : Result Next → Prop
  | .ok (.value _) _ => True
  | .ok .skip _ => True
  | .ok (.enter _ _) _ => True
  | .halt _ _ => True
  | _ => False
theorem goR_of : ∀ {r : Result Next}, plainR r → goR r
  | .ok (.value _) _, _ => trivial
  | .ok .skip _, _ => trivial
  | .halt _ _, _ => trivial
  | .ok (.enter _ _) _, _ => trivial
  | .ok (.defer _) _, h => h.elim
  | .ok (.row _ _) _, h => h.elim
  | .ok (.round ..) _, h => h.elim
  | .ok (.spawn ..) _, h => h.elim
  | .ok (.comm ..) _, h => h.elim
theorem go_exec {P : Program} {fs : List Nat} {o : Oper} (hfs : ∀ f ∈ fs, ∀ args w, (callFunc f args).run P w = .ok (.enter f args) w) (h : goOp fs o = true) (ρ : Operand → Value) (hρ : ∀ f, ρ (.func f) = .func (.func f) #[] #[]) (w : World) : goR ((execOp ρ o).run P w) := by
  by_cases hp : plainOp o = true
  · exact goR_of (plain_exec hp ρ w)
  · unfold goOp at h
    rw [Bool.or_eq_true] at h
    rcases h with h | h
    · exact absurd h hp
    · cases ho : o.op with
      | nilCheck x =>
        simp only [execOp, ho]
        split
        · simp [goR, go_sem]
        · simp [goR, go_sem]
        · simp [goR, go_sem]
        · split
          · simp [goR, go_sem]
          · rename_i t w1 _
            simp only [Sem.run_bind]
            cases Sem.run P program w with
            | halt a b => simp [goR, go_sem]
            | ok p w2 =>
              simp only [Result.andThen]
              cases Sem.run P (nilAhead (p.types.size + Made.depth) t w1 _) w2 with
              | halt a b => simp [goR]
              | ok q w3 =>
                simp only [Result.andThen]
                split <;> simp [goR, go_sem]
          · simp [goR, go_sem]
        · simp [goR, go_sem]
      | call c =>
        rw [ho] at h
        simp only at h
        split at h
        · rename_i f hf
          have hm : f ∈ fs := by simpa using h
          simp only [execOp, ho, resolve, hf, hρ]
          simp [Deferred.ofValue, invoke, go_sem, hfs f hm, goR]
        · cases h
      | _ => rw [ho] at h; cases h
theorem uponIn_go {l n : Nat} {P : Program} {o : Oper} {a : Act} {K : Act → World → Prop} {Q : Exit → Act → World → Prop} : ∀ {r : Result Next}, goR r → o.upon P a K Q r → o.uponIn (Fence.wide.inRound l) n P a K Q r
  | .ok (.value _) _, _, h => h
  | .ok .skip _, _, h => h
  | .halt x _, _, h => by cases x <;> exact h
  | .ok (.enter _ _) _, _, h => ⟨fun e => by simp [Fence.wide, Fence.inRound] at e, (callsIn_wide (n := n - 1)).2 h⟩
  | .ok (.defer _) _, h, _ => h.elim
  | .ok (.row _ _) _, h, _ => h.elim
  | .ok (.round ..) _, h, _ => h.elim
  | .ok (.spawn ..) _, h, _ => h.elim
  | .ok (.comm ..) _, h, _ => h.elim
theorem wpIn_go {l n : Nat} {P : Program} {fs : List Nat} {o : Oper} (hfs : ∀ f ∈ fs, ∀ args w, (callFunc f args).run P w = .ok (.enter f args) w) (ho : goOp fs o = true) {a : Act} {w : World} {K : Act → World → Prop} {Q : Exit → Act → World → Prop} (h : o.wp P a w K Q) : o.wpIn (Fence.wide.inRound l) n P a w K Q := by
  have hd : ∀ c, o.op ≠ .defer c := fun c e => by
    unfold goOp plainOp at ho; rw [e] at ho; cases ho
  refine ⟨fun f hf => trivial, ?_⟩
  rw [Oper.semAt_eq _ _ _ hd]
  exact uponIn_go (go_exec hfs ho _ (fun _ => rfl) _) h
theorem wpAnyIn_go {l n : Nat} {P : Program} {fs : List Nat} {ops : Array Oper} {Q : Exit → Act → World → Prop} {md : Region.Mode} (hfs : ∀ f ∈ fs, ∀ args w, (callFunc f args).run P w = .ok (.enter f args) w) (hQ : ¬ LetsOut Q) (ho : ∀ (i : Nat) (o : Oper), ops[i]? = some o → goOp fs o = true) : ∀ (fuel : Nat) (listed : Array Bool) (a : Act) (w : World), wpAny P md ops Q fuel listed a w → wpAnyIn (Fence.wide.inRound l) n P md ops Q fuel listed a w
  | 0, _, _, _, h => h
  | k + 1, listed, a, w, h => ⟨h.1, fun i hi => by
    have hj := h.2 i hi
    unfold wpOp at hj
    unfold wpOpIn
    cases e : ops[i]? with
    | none =>
      simp only [e] at hj ⊢
      exact wpAnyIn_go hfs hQ ho k _ _ _ hj
    | some o =>
      simp only [e] at hj ⊢
      split
      · rename_i hw
        simp only [hw, if_true] at hj
        exact wpIn_go hfs (ho i o e) (Oper.wp_mono (fun a w h => wpAnyIn_go hfs hQ ho k _ a w h) (hj.resolve_right (fun h => hQ h.2)))
      · rename_i hw
        simp only [hw] at hj
        exact ⟨fun f hf => trivial, wpAnyIn_go hfs hQ ho k _ _ _ hj⟩⟩
/-- A region of plain operations and calls of known functions that draws its order, inside a fence: walked as outside. -/
theorem wpIn_region_go {l' n : Nat} {P : Program} {fs : List Nat} {l : List Oper} {Q : Exit → Act → World → Prop} {id : Nat} {a : Act} {w : World} (hm : P.follows .mixedOrders = true) (hfs : ∀ f ∈ fs, ∀ args w, (callFunc f args).run P w = .ok (.enter f args) w) (ho : l.all (goOp fs) = true) (h : wpAny P .any l.toArray (noOut Q) l.toArray.size (Array.replicate l.toArray.size false) a w.drew) : (Code.region id l.toArray true).wpIn (Fence.wide.inRound l') n P Q a w :=
  wpIn_mono (wpIn_region_any hm (wpAnyIn_go hfs (fun ⟨_, _, h⟩ => h) (fun i o e => List.all_eq_true.1 ho o (by simp only [List.getElem?_toArray] at e; exact List.mem_of_getElem? e)) _ _ _ _ h)) (fun e a w h => by cases e <;> first | exact h | exact h.elim)
theorem wpIn_region_UC {l' m : Nat} {P : Program} {l : List Oper} {Q : Exit → Act → World → Prop} {id : Nat} {a : Act} {w : World} (n : Nat) (S : World → Prop) (fs : List Nat) (hm : P.follows .mixedOrders = true) (hfs : ∀ f ∈ fs, ∀ args w, (callFunc f args).run P w = .ok (.enter f args) w) (ho : l.all (goOp fs) = true) (hS : S w.drew)
    (h : S w.drew → AnyU P .any l.toArray (noOut Q) S n l.toArray.size (Array.replicate l.toArray.size false) a w.drew) : (Code.region id l.toArray true).wpIn (Fence.wide.inRound l') m P Q a w :=
  wpIn_region_go hm hfs ho (AnyU.any _ _ _ _ (h hS))
/-- A drawn region that only reads, inside a round: one walk, in the order of the text. -/
theorem wpIn_region_quietG {l' n : Nat} {P : Program} {l : List Oper} {Q : Exit → Act → World → Prop} {id : Nat} {a : Act} {w : World} (hm : P.follows .mixedOrders = true) (ho : l.all (goOp []) = true) (hB : Region.lexB .any l.toArray = true)
    (h : wpQuiet P l.toArray (fun w' => ∃ n, w' = w.drewN n) (fun a' => ∀ w', (∃ n, w' = w.drewN n) → Q .normal a' w') l a) : (Code.region id l.toArray true).wpIn (Fence.wide.inRound l') n P Q a w := by
  simp only [Region.lexB, Bool.and_eq_true] at hB
  have h2 : wpAny P .any l.toArray (noOut Q) l.toArray.size (Array.replicate l.toArray.size false) a (w.drewN 1) := by
    refine wpAny_of_quiet (C := fun w' => ∃ n, w' = w.drewN n) (Q := fun a' => ∀ w', (∃ n, w' = w.drewN n) → noOut Q .normal a' w') (fun _ w' hw' h => h w' hw') _ _ _ _ ⟨1, rfl⟩ ?_
    have := wpAnyQ_lex (C := fun w' => ∃ n, w' = w.drewN n) (Q := fun a' => ∀ w', (∃ n, w' = w.drewN n) → noOut Q .normal a' w') (md := .any) hB.1 l 0 (Array.replicate l.toArray.size false) a (by simp) (by simpa using hB.2) h
    simpa using this
  exact wpIn_region_go hm (fs := []) (fun f hf => by cases hf) ho h2
end Go.Proofs.Ytkidefmkgcankaa
