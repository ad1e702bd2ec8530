/-
  No cell of these rows narrows 'for every input' (looked for: loops, veiled, ifaces, maps, wideKeys, modest, calm, conditions, laid).
  DERIVED. THE GIVEN ROWS OF THIS SEAT. 7 by the template 'for every input the law returns true; each argument reads behind the call as it read before'; 0 by the template 'total and deterministic' (their statements: YgcsaaTotals.lean).
  GIVEN WITH THE SEED: the statements are not yours to turn. If you find one false, say at which input.
  Laid BY PROGRAM, IN A SANDBOX (cutbox-rows.mjs): the forced cells as the released guide's own fill.sh prints them over the translation 96227f101932eb6c… (all of the seat's roots in one cut). By AI agents, Wed Nov 11 2026. No macro, syntax, notation, axiom, sorry.
-/
import Derived.Test.YgcsaaChecked
import GoSem.Claim
import GoSem.ClaimJoined
import GoSem.ClaimMapViews
import Derived.JoinedTies
import Derived.KernelRfl
namespace Go.Proofs.Ygcsaa
/- THE CELL 'sum', in the pinned program and in every row, IS THE sha256 OF THE DUMP (.gsa) THAT YgcsaaProg.lean LOADS. Nothing in Lean hashes anything: it is a label: what it is worth is what the hold of that sum in a sandbox is worth. -/
noncomputable def Saag.pinned : Pinned := { name := "ygcsaa", sum := "96227f101932eb6c3c94d29fda64946051396a5ebe27b4f7657ef7ef606baba1", checked := Saag.checked }
namespace Rows
def none {H : Type} : Left H := { results := [], args := [] }

/-- 'law.AbsWorldRight': WHATEVER THE INPUT: true; the input reads as it did. -/
def absWorldRightSpec : ChangeSpec := { name := "absWorldRight", fn := fun _ => fun
  | [d1, d2] => { results := [.lit (.bool true)], args := [d1, d2] }
  | _ => none }
def absWorldRightRow : OpenClaim := { program := "ygcsaa", sum := "96227f101932eb6c3c94d29fda64946051396a5ebe27b4f7657ef7ef606baba1", func := "yellow/law.AbsWorldRight", spec := "absWorldRight", apart := false }
def AbsWorldRightSaid : Prop := absWorldRightRow.holds Saag.pinned (OpenSpec.ofChange absWorldRightSpec)

/-- ITS FALSE NEIGHBOUR: 'it returns false'. Refute it at one input. -/
def absWorldRightWrong : ChangeSpec := { name := "absWorldRight", fn := fun _ => fun
  | [d1, d2] => { results := [.lit (.bool false)], args := [d1, d2] }
  | _ => none }
def AbsWorldRightWrongFalsely : Prop := absWorldRightRow.holds Saag.pinned (OpenSpec.ofChange absWorldRightWrong)

/-- 'law.AbsAgree': WHATEVER THE INPUT: true; the input reads as it did. -/
def absAgreeSpec : ChangeSpec := { name := "absAgree", fn := fun _ => fun
  | [d1, d2] => { results := [.lit (.bool true)], args := [d1, d2] }
  | _ => none }
def absAgreeRow : OpenClaim := { program := "ygcsaa", sum := "96227f101932eb6c3c94d29fda64946051396a5ebe27b4f7657ef7ef606baba1", func := "yellow/law.AbsAgree", spec := "absAgree", apart := false }
def AbsAgreeSaid : Prop := absAgreeRow.holds Saag.pinned (OpenSpec.ofChange absAgreeSpec)

/-- ITS FALSE NEIGHBOUR: 'it returns false'. Refute it at one input. -/
def absAgreeWrong : ChangeSpec := { name := "absAgree", fn := fun _ => fun
  | [d1, d2] => { results := [.lit (.bool false)], args := [d1, d2] }
  | _ => none }
def AbsAgreeWrongFalsely : Prop := absAgreeRow.holds Saag.pinned (OpenSpec.ofChange absAgreeWrong)

/-- 'law.AluRing': WHATEVER THE INPUT: true; the input reads as it did. -/
def aluRingSpec : ChangeSpec := { name := "aluRing", fn := fun _ => fun
  | [d1, d2, d3, d4] => { results := [.lit (.bool true)], args := [d1, d2, d3, d4] }
  | _ => none }
def aluRingRow : OpenClaim := { program := "ygcsaa", sum := "96227f101932eb6c3c94d29fda64946051396a5ebe27b4f7657ef7ef606baba1", func := "yellow/law.AluRing", spec := "aluRing", apart := false }
def AluRingSaid : Prop := aluRingRow.holds Saag.pinned (OpenSpec.ofChange aluRingSpec)

/-- ITS FALSE NEIGHBOUR: 'it returns false'. Refute it at one input. -/
def aluRingWrong : ChangeSpec := { name := "aluRing", fn := fun _ => fun
  | [d1, d2, d3, d4] => { results := [.lit (.bool false)], args := [d1, d2, d3, d4] }
  | _ => none }
def AluRingWrongFalsely : Prop := aluRingRow.holds Saag.pinned (OpenSpec.ofChange aluRingWrong)

/-- 'law.AluSigned': WHATEVER THE INPUT: true; the input reads as it did. -/
def aluSignedSpec : ChangeSpec := { name := "aluSigned", fn := fun _ => fun
  | [d1, d2] => { results := [.lit (.bool true)], args := [d1, d2] }
  | _ => none }
def aluSignedRow : OpenClaim := { program := "ygcsaa", sum := "96227f101932eb6c3c94d29fda64946051396a5ebe27b4f7657ef7ef606baba1", func := "yellow/law.AluSigned", spec := "aluSigned", apart := false }
def AluSignedSaid : Prop := aluSignedRow.holds Saag.pinned (OpenSpec.ofChange aluSignedSpec)

/-- ITS FALSE NEIGHBOUR: 'it returns false'. Refute it at one input. -/
def aluSignedWrong : ChangeSpec := { name := "aluSigned", fn := fun _ => fun
  | [d1, d2] => { results := [.lit (.bool false)], args := [d1, d2] }
  | _ => none }
def AluSignedWrongFalsely : Prop := aluSignedRow.holds Saag.pinned (OpenSpec.ofChange aluSignedWrong)

/-- 'law.AluExp': WHATEVER THE INPUT: true; the input reads as it did. -/
def aluExpSpec : ChangeSpec := { name := "aluExp", fn := fun _ => fun
  | [d1, d2] => { results := [.lit (.bool true)], args := [d1, d2] }
  | _ => none }
def aluExpRow : OpenClaim := { program := "ygcsaa", sum := "96227f101932eb6c3c94d29fda64946051396a5ebe27b4f7657ef7ef606baba1", func := "yellow/law.AluExp", spec := "aluExp", apart := false }
def AluExpSaid : Prop := aluExpRow.holds Saag.pinned (OpenSpec.ofChange aluExpSpec)

/-- ITS FALSE NEIGHBOUR: 'it returns false'. Refute it at one input. -/
def aluExpWrong : ChangeSpec := { name := "aluExp", fn := fun _ => fun
  | [d1, d2] => { results := [.lit (.bool false)], args := [d1, d2] }
  | _ => none }
def AluExpWrongFalsely : Prop := aluExpRow.holds Saag.pinned (OpenSpec.ofChange aluExpWrong)

/-- 'law.AluBits': WHATEVER THE INPUT: true; the input reads as it did. -/
def aluBitsSpec : ChangeSpec := { name := "aluBits", fn := fun _ => fun
  | [d1, d2, d3, d4] => { results := [.lit (.bool true)], args := [d1, d2, d3, d4] }
  | _ => none }
def aluBitsRow : OpenClaim := { program := "ygcsaa", sum := "96227f101932eb6c3c94d29fda64946051396a5ebe27b4f7657ef7ef606baba1", func := "yellow/law.AluBits", spec := "aluBits", apart := false }
def AluBitsSaid : Prop := aluBitsRow.holds Saag.pinned (OpenSpec.ofChange aluBitsSpec)

/-- ITS FALSE NEIGHBOUR: 'it returns false'. Refute it at one input. -/
def aluBitsWrong : ChangeSpec := { name := "aluBits", fn := fun _ => fun
  | [d1, d2, d3, d4] => { results := [.lit (.bool false)], args := [d1, d2, d3, d4] }
  | _ => none }
def AluBitsWrongFalsely : Prop := aluBitsRow.holds Saag.pinned (OpenSpec.ofChange aluBitsWrong)

/-- 'law.ArenaAny': WHATEVER THE INPUT: true; the input reads as it did. -/
def arenaAnySpec : ChangeSpec := { name := "arenaAny", fn := fun _ => fun
  | [d1, d2, d3, d4] => { results := [.lit (.bool true)], args := [d1, d2, d3, d4] }
  | _ => none }
def arenaAnyRow : OpenClaim := { program := "ygcsaa", sum := "96227f101932eb6c3c94d29fda64946051396a5ebe27b4f7657ef7ef606baba1", func := "yellow/law.ArenaAny", spec := "arenaAny", apart := false }
def ArenaAnySaid : Prop := arenaAnyRow.holds Saag.pinned (OpenSpec.ofChange arenaAnySpec)

/-- ITS FALSE NEIGHBOUR: 'it returns false'. Refute it at one input. -/
def arenaAnyWrong : ChangeSpec := { name := "arenaAny", fn := fun _ => fun
  | [d1, d2, d3, d4] => { results := [.lit (.bool false)], args := [d1, d2, d3, d4] }
  | _ => none }
def ArenaAnyWrongFalsely : Prop := arenaAnyRow.holds Saag.pinned (OpenSpec.ofChange arenaAnyWrong)

end Rows
end Go.Proofs.Ygcsaa
