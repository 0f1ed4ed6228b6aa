/-
  No cell of these rows narrows 'for every input' (looked for: loops, veiled, ifaces, maps, wideKeys, modest, calm, conditions, laid).
  DERIVED. THE GIVEN ROWS OF THIS SEAT. 4 by the template 'for every input the law returns true; each argument reads behind the call as it read before'; 0 by the template 'total and deterministic' (their statements: YtkidefmkgcankaaTotals.lean).
  GIVEN WITH THE SEED: the statements are not yours to turn. If you find one false, say at which input.
  Laid BY PROGRAM, IN A SANDBOX (cutbox-rows.mjs): the forced cells as the released guide's own fill.sh prints them over the translation af16140076d944ac… (all of the seat's roots in one cut). By AI agents, Wed Nov 11 2026. No macro, syntax, notation, axiom, sorry.
-/
import Derived.Test.YtkidefmkgcankaaChecked
import GoSem.Claim
import GoSem.ClaimJoined
import GoSem.ClaimMapViews
import Derived.JoinedTies
import Derived.KernelRfl
namespace Go.Proofs.Ytkidefmkgcankaa
/- THE CELL 'sum', in the pinned program and in every row, IS THE sha256 OF THE DUMP (.gsa) THAT YtkidefmkgcankaaProg.lean LOADS. Nothing in Lean hashes anything: it is a label: what it is worth is what the hold of that sum in a sandbox is worth. -/
noncomputable def Try.pinned : Pinned := { name := "ytkidefmkgcankaa", sum := "af16140076d944ac2137c467a465ed10b1d974d6a9774285a27119bc0150a2b8", checked := Try.checked }
namespace Rows
def none {H : Type} : Left H := { results := [], args := [] }

/-- 'gavellaw06.NamesSpell': WHATEVER THE INPUT: true; the input reads as it did. -/
def namesSpellSpec : ChangeSpec := { name := "namesSpell", fn := fun _ => fun
  | [d1, d2] => { results := [.lit (.bool true)], args := [d1, d2] }
  | _ => none }
def namesSpellRow : OpenClaim := { program := "ytkidefmkgcankaa", sum := "af16140076d944ac2137c467a465ed10b1d974d6a9774285a27119bc0150a2b8", func := "gavel/gavellaw06.NamesSpell", spec := "namesSpell", inPlace := ["internal/bytealg.IndexByteString"], apart := false }
def NamesSpellSaid : Prop := namesSpellRow.holds Try.pinned (OpenSpec.ofChange namesSpellSpec)

/-- ITS FALSE NEIGHBOUR: 'it returns false'. Refute it at one input. -/
def namesSpellWrong : ChangeSpec := { name := "namesSpell", fn := fun _ => fun
  | [d1, d2] => { results := [.lit (.bool false)], args := [d1, d2] }
  | _ => none }
def NamesSpellWrongFalsely : Prop := namesSpellRow.holds Try.pinned (OpenSpec.ofChange namesSpellWrong)

/-- 'gavellaw06.NamesPlay': WHATEVER THE INPUT: true; the input reads as it did. -/
def namesPlaySpec : ChangeSpec := { name := "namesPlay", fn := fun _ => fun
  | [d1, d2] => { results := [.lit (.bool true)], args := [d1, d2] }
  | _ => none }
def namesPlayRow : OpenClaim := { program := "ytkidefmkgcankaa", sum := "af16140076d944ac2137c467a465ed10b1d974d6a9774285a27119bc0150a2b8", func := "gavel/gavellaw06.NamesPlay", spec := "namesPlay", inPlace := ["internal/bytealg.abigen_runtime_cmpstring"], unfollowed := true, recurses := true, apart := false }
def NamesPlaySaid : Prop := namesPlayRow.holds Try.pinned (OpenSpec.ofChange namesPlaySpec)

/-- ITS FALSE NEIGHBOUR: 'it returns false'. Refute it at one input. -/
def namesPlayWrong : ChangeSpec := { name := "namesPlay", fn := fun _ => fun
  | [d1, d2] => { results := [.lit (.bool false)], args := [d1, d2] }
  | _ => none }
def NamesPlayWrongFalsely : Prop := namesPlayRow.holds Try.pinned (OpenSpec.ofChange namesPlayWrong)

/-- 'gavellaw06.NamesNil': WHATEVER THE INPUT: true; the input reads as it did. -/
def namesNilSpec : ChangeSpec := { name := "namesNil", fn := fun _ => fun
  | [d1, d2] => { results := [.lit (.bool true)], args := [d1, d2] }
  | _ => none }
def namesNilRow : OpenClaim := { program := "ytkidefmkgcankaa", sum := "af16140076d944ac2137c467a465ed10b1d974d6a9774285a27119bc0150a2b8", func := "gavel/gavellaw06.NamesNil", spec := "namesNil", inPlace := ["internal/bytealg.abigen_runtime_cmpstring"], unfollowed := true, recurses := true, apart := false }
def NamesNilSaid : Prop := namesNilRow.holds Try.pinned (OpenSpec.ofChange namesNilSpec)

/-- ITS FALSE NEIGHBOUR: 'it returns false'. Refute it at one input. -/
def namesNilWrong : ChangeSpec := { name := "namesNil", fn := fun _ => fun
  | [d1, d2] => { results := [.lit (.bool false)], args := [d1, d2] }
  | _ => none }
def NamesNilWrongFalsely : Prop := namesNilRow.holds Try.pinned (OpenSpec.ofChange namesNilWrong)

/-- 'gavellaw06.NamesThere': WHATEVER THE INPUT: true; the input reads as it did. -/
def namesThereSpec : ChangeSpec := { name := "namesThere", fn := fun _ => fun
  | [d] => { results := [.lit (.bool true)], args := [d] }
  | _ => none }
def namesThereRow : OpenClaim := { program := "ytkidefmkgcankaa", sum := "af16140076d944ac2137c467a465ed10b1d974d6a9774285a27119bc0150a2b8", func := "gavel/gavellaw06.NamesThere", spec := "namesThere", inPlace := ["internal/bytealg.abigen_runtime_cmpstring", "internal/bytealg.IndexByteString"], unfollowed := true, recurses := true, apart := false }
def NamesThereSaid : Prop := namesThereRow.holds Try.pinned (OpenSpec.ofChange namesThereSpec)

/-- ITS FALSE NEIGHBOUR: 'it returns false'. Refute it at one input. -/
def namesThereWrong : ChangeSpec := { name := "namesThere", fn := fun _ => fun
  | [d] => { results := [.lit (.bool false)], args := [d] }
  | _ => none }
def NamesThereWrongFalsely : Prop := namesThereRow.holds Try.pinned (OpenSpec.ofChange namesThereWrong)

/- THE SECOND FORM. 'bulk': how many values and letters a reading holds, each counted each time it is reached (what is shared counts as often as it is met; a slice's spare places count too). A statement '..UptoSaid' is the law's where the arguments, and the package variables that the reading takes, are together of bulk at most 1048576: NARROWER than '..Said'. Prove '..Said' where nothing that the law and all that it calls make is longer than what came in: it says more and counts as full. Else prove '..UptoSaid'. A law counts once. -/
mutual
def uptoBulk {H : Type} : DataW H → Nat
  | .lit (.string bytes) => bytes.length + 1
  | .lit _ => 1
  | .nil => 1
  | .ptr d => uptoBulk d + 1
  | .slice elems spare => uptoBulkAll elems + uptoBulkAll spare + 1
  | .agg parts => uptoBulkAll parts + 1
  | .iface _ d => uptoBulk d + 1
  | .map entries => uptoBulkEntries entries + 1
  | .held _ => 1
def uptoBulkAll {H : Type} : List (DataW H) → Nat
  | [] => 0
  | d :: r => uptoBulk d + uptoBulkAll r
def uptoBulkEntries {H : Type} : List (Lit × DataW H) → Nat
  | [] => 0
  | x :: r => uptoBulkEntry x + uptoBulkEntries r
def uptoBulkEntry {H : Type} : Lit × DataW H → Nat
  | (.string bytes, d) => bytes.length + uptoBulk d + 1
  | (_, d) => uptoBulk d + 1
 end
def uptoSmall : (H : Type) → List (DataW H) → Bool := fun _ ds => decide (uptoBulkAll ds ≤ 1048576)
def OpenSpec.upto (s : _root_.Go.ChangeSpec) : _root_.Go.OpenSpec := { _root_.Go.OpenSpec.ofChange s with cond := some uptoSmall }

/-- 'gavellaw06.NamesSpell', WHERE WHAT IT READS IS OF BULK AT MOST 1048576: true; the input reads as it did. -/
def namesSpellUptoRow : OpenClaim := { program := "ytkidefmkgcankaa", sum := "af16140076d944ac2137c467a465ed10b1d974d6a9774285a27119bc0150a2b8", func := "gavel/gavellaw06.NamesSpell", spec := "namesSpell", inPlace := ["internal/bytealg.IndexByteString"], apart := false, narrowed := true }
def NamesSpellUptoSaid : Prop := namesSpellUptoRow.holds Try.pinned (OpenSpec.upto namesSpellSpec)

/-- 'gavellaw06.NamesPlay', WHERE WHAT IT READS IS OF BULK AT MOST 1048576: true; the input reads as it did. -/
def namesPlayUptoRow : OpenClaim := { program := "ytkidefmkgcankaa", sum := "af16140076d944ac2137c467a465ed10b1d974d6a9774285a27119bc0150a2b8", func := "gavel/gavellaw06.NamesPlay", spec := "namesPlay", inPlace := ["internal/bytealg.abigen_runtime_cmpstring"], unfollowed := true, recurses := true, apart := false, narrowed := true }
def NamesPlayUptoSaid : Prop := namesPlayUptoRow.holds Try.pinned (OpenSpec.upto namesPlaySpec)

/-- 'gavellaw06.NamesNil', WHERE WHAT IT READS IS OF BULK AT MOST 1048576: true; the input reads as it did. -/
def namesNilUptoRow : OpenClaim := { program := "ytkidefmkgcankaa", sum := "af16140076d944ac2137c467a465ed10b1d974d6a9774285a27119bc0150a2b8", func := "gavel/gavellaw06.NamesNil", spec := "namesNil", inPlace := ["internal/bytealg.abigen_runtime_cmpstring"], unfollowed := true, recurses := true, apart := false, narrowed := true }
def NamesNilUptoSaid : Prop := namesNilUptoRow.holds Try.pinned (OpenSpec.upto namesNilSpec)

/-- 'gavellaw06.NamesThere', WHERE WHAT IT READS IS OF BULK AT MOST 1048576: true; the input reads as it did. -/
def namesThereUptoRow : OpenClaim := { program := "ytkidefmkgcankaa", sum := "af16140076d944ac2137c467a465ed10b1d974d6a9774285a27119bc0150a2b8", func := "gavel/gavellaw06.NamesThere", spec := "namesThere", inPlace := ["internal/bytealg.abigen_runtime_cmpstring", "internal/bytealg.IndexByteString"], unfollowed := true, recurses := true, apart := false, narrowed := true }
def NamesThereUptoSaid : Prop := namesThereUptoRow.holds Try.pinned (OpenSpec.upto namesThereSpec)

end Rows
end Go.Proofs.Ytkidefmkgcankaa
